/- The walks of package rings: All. -/
import Derived.Test.YtekpjmdkihnpeaaRings
namespace Go.Proofs.Ytekpjmdkihnpeaa
set_option linter.unusedSimpArgs false
set_option linter.unusedVariables false
open Go.RowKit Go.Shelf Go.Sort

attribute [local go_sem] Oper.semAt_some

/-- A function's end behind ranges, no result. -/
theorem end_none {F : Fence} {n : Nat} {P : Program} {fn : Func} {R : Ending → World → Prop} {e : Exit} {a : Act} {w : World} (he : e = .ret ∨ e = .normal) (ds : List Nat) (B : Nat) (hdf : a.defers = ds.map mark) (hr : fn.results = #[])
    (hd : ∀ D ∈ ds, B ≤ D ∧ w.heap[D]? = some (.deferred (some []))) (hn : ds.Nodup)
    (h : ∀ W', Below B w W' → (∀ k, k ∉ ds → W'.heap[k]? = w.heap[k]?) → R (.returned (.tuple #[])) W') : bodyPostM F n P fn R e a w := by
  have key : LeavesInM F n P fn a.tmps R a.defers .returning w := by
    rw [hdf]
    exact leave_core (B := B) ds w hd hn fun W' hb hk => ⟨_, results_none hr _ _ _, h W' hb hk⟩
  rcases he with rfl | rfl <;> exact key

abbrev encII (x : Int × Int) : Array Value := #[.int .i64 x.1, .int .i64 x.2]
/-- The rings of the first k distances. -/
def allTo (W H c : Int) : Nat → List (Int × Int)
  | 0 => []
  | k + 1 => allTo W H c k ++ (ringL W H c k).map (fun x => ((k : Int), x))
def allL (W H c : Int) : List (Int × Int) := allTo W H c (lastD W H c + 1).toNat

theorem allTo_split (W H c : Int) (k n : Nat) (h : k < n) : ∃ post, allTo W H c n = allTo W H c k ++ ((ringL W H c k).map (fun x => ((k : Int), x)) ++ post) := by
  induction n with
  | zero => omega
  | succ n ih =>
    by_cases hk : k = n
    · subst hk; exact ⟨[], by simp [allTo]⟩
    · obtain ⟨post, hp⟩ := ih (by omega)
      exact ⟨post ++ (ringL W H c n).map (fun x => ((n : Int), x)), by simp [allTo, hp]⟩

/-- rings.All: the iterator and its two blocks. -/
theorem all_f (W H c : Int) (w : World) :
    Calls Try.prog 38 #[.agg #[.int .i64 W, .int .i64 H], .int .i64 c] w fun e w' =>
      e = .returned (.func (.func 53) #[] #[.pointer (some ⟨w.heap.size, 0, none⟩), .pointer (some ⟨w.heap.size + 1, 0, none⟩)]) ∧ Below w.heap.size w w' ∧
      w'.heap[w.heap.size]? = some (.cells #[.int .i64 W, .int .i64 H] 23) ∧ w'.heap[w.heap.size + 1]? = some (.cells #[.int .i64 c] 3) := by
  go_enter Try.func38, Try.ntmps38
  go_wp2
  go_ret
  exact ⟨rfl, (by repeat (first | exact Below.refl _ _ | (refine Below.alloc ?_ (by ((try simp only [World.size_alloc, World.size_setCell, World.size_drew, World.heap_drewN]); omega)) _) | (refine Below.drewN' ?_ _) | (refine Below.drew ?_) | (refine Below.setCell ?_ (by ((try simp only [World.size_alloc, World.size_setCell, World.size_drew, World.heap_drewN]); omega)) _) | (refine Below.trans ?_ (Below.mono (by assumption) (by ((try simp only [World.size_alloc, World.size_setCell, World.size_drew, World.heap_drewN]); omega)))))), (by simp only [Boxed, hp_alloc, hp_drewN, hp_drew, if_true, World.size_alloc, World.size_setCell, World.size_drew, World.heap_drewN]; repeat (first | rw [if_true] | rw [if_pos (by omega)] | rw [if_neg (by omega)] | rw [hp_set_ne _ _ _ _ _ (by omega)] | rw [hp_set_eq (by assumption)]); try first | rfl | assumption | (apply hp_set_eq; (repeat (rw [hp_set_ne _ _ _ _ _ (by omega)])); assumption)), (by simp only [Boxed, hp_alloc, hp_drewN, hp_drew, if_true, World.size_alloc, World.size_setCell, World.size_drew, World.heap_drewN]; repeat (first | rw [if_true] | rw [if_pos (by omega)] | rw [if_neg (by omega)] | rw [hp_set_ne _ _ _ _ _ (by omega)] | rw [hp_set_eq (by assumption)]); try first | rfl | assumption | (apply hp_set_eq; (repeat (rw [hp_set_ne _ _ _ _ _ (by omega)])); assumption))⟩

set_option maxRecDepth 100000 in
set_option maxHeartbeats 2000000 in
theorem all_iter (W H c : Int) (w : World) (bz bc : Nat) (hz : w.heap[bz]? = some (.cells #[.int .i64 W, .int .i64 H] 23)) (hc : w.heap[bc]? = some (.cells #[.int .i64 c] 3)) :
    Iter Try.prog 53 #[.pointer (some ⟨bz, 0, none⟩), .pointer (some ⟨bc, 0, none⟩)] encII (allL W H c) (fun k => k = bz ∨ k = bc) w := by
  intro l J Jx S V hV hJ hJx hBd hSC hY h0
  have zV : V.heap[bz]? = some (.cells #[.int .i64 W, .int .i64 H] 23) := (hV.block bz (Array.getElem?_eq_some_iff.1 hz).1 (fun h => h)).trans hz
  have cV : V.heap[bc]? = some (.cells #[.int .i64 c] 3) := (hV.block bc (Array.getElem?_eq_some_iff.1 hc).1 (fun h => h)).trans hc
  obtain ⟨z0, z1, z0f, z1f⟩ := cell2 zV
  obtain ⟨c0, c0f⟩ := cell1 cV
  have zl := (ltF zV).1
  have cl := (ltF cV).1
  have hSz : ¬ S bz := fun h => hSC bz h (.inl rfl)
  have hSc : ¬ S bc := fun h => hSC bc h (.inr rfl)
  have hSV : ∀ k, S k → k < V.heap.size := hBd
  have hlb := lastD_bd W H c
  obtain ⟨N, hN⟩ : ∃ N : Nat, (lastD W H c + 1).toNat = N := ⟨_, rfl⟩
  have E : allL W H c = allTo W H c N := by unfold allL; rw [hN]
  have hN' : lastD W H c + 1 = N := by omega
  have HE := Lib.hid E
  have HN := Lib.hid hN'
  clear E hN
  (refine callsIn_of_wp_marks Try.func53 rfl trivial ?_ rfl); simp only [Try.ntmps53, List.size_toArray, List.length_cons, List.length_nil, Nat.reduceAdd, Nat.reduceSub, Array.replicate_succ, Array.replicate_zero, List.push_toArray, List.append_toArray, List.nil_append, List.cons_append]
  gi_wp2_with fail
  (refine ⟨trivial, rfl, ?_⟩); (refine CallsIn.mono (callsIn_wide.2 (last_any W H c _)) ?_); rintro e w1 ⟨rfl, hb1⟩; have hz1 := hb1.size; (try simp only [World.size_alloc, World.size_setCell, World.size_drew, World.heap_drewN] at hz1); have z := keepH2 (zV) (by repeat (first | exact Below.refl _ _ | (refine Below.alloc ?_ (by ((try simp only [World.size_alloc, World.size_setCell, World.size_drew, World.heap_drewN]); omega)) _) | (refine Below.drewN' ?_ _) | (refine Below.drew ?_) | (refine Below.setCell ?_ (by ((try simp only [World.size_alloc, World.size_setCell, World.size_drew, World.heap_drewN]); omega)) _) | (refine Below.trans ?_ (Below.mono (by assumption) (by ((try simp only [World.size_alloc, World.size_setCell, World.size_drew, World.heap_drewN]); omega)))))) hb1; (try simp only [World.size_alloc, World.size_setCell, World.size_drew, World.heap_drewN] at z); obtain ⟨z_l0, z_l1, z_l2, z_l3, z_l4⟩ := ltF z; obtain ⟨z_0, z_1, z_0f, z_1f⟩ := cell2 z; have cc := keepH2 (cV) (by repeat (first | exact Below.refl _ _ | (refine Below.alloc ?_ (by ((try simp only [World.size_alloc, World.size_setCell, World.size_drew, World.heap_drewN]); omega)) _) | (refine Below.drewN' ?_ _) | (refine Below.drew ?_) | (refine Below.setCell ?_ (by ((try simp only [World.size_alloc, World.size_setCell, World.size_drew, World.heap_drewN]); omega)) _) | (refine Below.trans ?_ (Below.mono (by assumption) (by ((try simp only [World.size_alloc, World.size_setCell, World.size_drew, World.heap_drewN]); omega)))))) hb1; (try simp only [World.size_alloc, World.size_setCell, World.size_drew, World.heap_drewN] at cc); obtain ⟨cc_l0, cc_l1, cc_l2, cc_l3, cc_l4⟩ := ltF cc; obtain ⟨cc_0, cc_0f⟩ := cell1 cc; have y := keepH2 (World.alloc_heap_new V _) (by repeat (first | exact Below.refl _ _ | (refine Below.alloc ?_ (by ((try simp only [World.size_alloc, World.size_setCell, World.size_drew, World.heap_drewN]); omega)) _) | (refine Below.drewN' ?_ _) | (refine Below.drew ?_) | (refine Below.setCell ?_ (by ((try simp only [World.size_alloc, World.size_setCell, World.size_drew, World.heap_drewN]); omega)) _) | (refine Below.trans ?_ (Below.mono (by assumption) (by ((try simp only [World.size_alloc, World.size_setCell, World.size_drew, World.heap_drewN]); omega)))))) hb1; (try simp only [World.size_alloc, World.size_setCell, World.size_drew, World.heap_drewN] at y); obtain ⟨y_l0, y_l1, y_l2, y_l3, y_l4⟩ := ltF y; obtain ⟨y_0, y_0f⟩ := cell1 y
  generalize lastD W H c = ld at *
  gi_wp2_with fail
  have hNb : N ≤ 8191 := by omega
  clear hN'
  refine wpIn_loop (fun a wr => ∃ (k : Nat) (S1 : Nat → Prop) (ds : List Nat) (u4 u5 u11 u12 u13 u14 u15 u16 u17 u18 u19 u20 u21 u22 u23 : Value),
      a = { tmps := #[.func (.yield l) #[] #[], .pointer (some ⟨bz, 0, none⟩), .pointer (some ⟨bc, 0, none⟩), .pointer (some ⟨V.heap.size, 0, none⟩), u4, u5, .agg #[.int .i64 W, .int .i64 H], .int .i64 c, .int .i64 ld, .int .i64 N, .int .i64 k, u11, u12, u13, u14, u15, u16, u17, u18, u19, u20, u21, u22, u23], defers := ds.map mark } ∧
      k ≤ N ∧ Grw S S1 V.heap.size ∧ Bd S1 wr ∧ Md V.heap.size S V wr ∧ J (allTo W H c k) S1 wr ∧ (∀ D ∈ ds, V.heap.size ≤ D ∧ wr.heap[D]? = some (.deferred (some [])) ∧ ¬ S1 D) ∧ ds.Nodup ∧
      wr.heap[V.heap.size]? = some (.cells #[.func (.yield l) #[] #[]] 56) ∧ ¬ S1 V.heap.size)
    (fun a _ => N - (intOf (a.tmps.getD 10 undef)).toNat) ?atStart ?round
  case atStart =>
    refine ⟨0, S, [], _, _, _, _, _, _, _, _, _, _, _, _, _, _, _, rfl, by omega, Grw.refl _ _, ?_, (by repeat (first | exact Md.refl _ _ _ | (refine Md.alloc ?_ (by ((try simp only [World.size_alloc, World.size_setCell, World.size_drew, World.heap_drewN]); omega)) _) | (refine Md.drewN ?_ _) | (refine Md.drew ?_) | (refine Md.setCell ?_ (by first | exact .inl rfl | exact .inl (.inl rfl) | exact .inl (.inr (.inl rfl)) | exact .inl (.inr (.inr (.inl rfl))) | exact .inl (.inr (.inr rfl)) | exact .inl (.inr rfl) | exact .inl (.inr (.inr (.inr rfl))) | (right; show _ ≤ _; ((try simp only [World.size_alloc, World.size_setCell, World.size_drew, World.heap_drewN]); omega)) | (left; show _; simp [*]; done)) _) | (refine Md.call ?_ (by assumption) (by ((try simp only [World.size_alloc, World.size_setCell, World.size_drew, World.heap_drewN]); omega))) | (refine Md.trans ?_ (by assumption)))), hJ [] S V _ h0 ?_, by simp, by simp, y, fun h => by have := hSV _ h; omega⟩
    · intro k hk; have := hSV k hk; omega
    · intro k hk; exact (hb1.block k (by have := hSV k hk; simp only [World.size_alloc]; omega)).trans (Below.heap_alloc _ _ _ (hSV k hk))
  case round =>
    rintro a wr ⟨k, S1, ds, u4, u5, u11, u12, u13, u14, u15, u16, u17, u18, u19, u20, u21, u22, u23, rfl, hk, hG, hB, hM, hj, hds, hnd, hy0, hSy⟩
    clear hb1 hz1 h0 y_0 y_0f z_0 z_1 z_0f z_1f cc_0 cc_0f
    have hszr := hM.size
    have hS1z : ¬ S1 bz := fun h => (hG _ h).elim hSz (by omega)
    have hS1c : ¬ S1 bc := fun h => (hG _ h).elim hSc (by omega)
    replace z := keepM zV hM zl hSz
    replace cc := keepM cV hM cl hSc
    replace y := hy0
    obtain ⟨z_0, z_1, z_0f, z_1f⟩ := cell2 z
    obtain ⟨cc_0, cc_0f⟩ := cell1 cc
    obtain ⟨y_0, y_0f⟩ := cell1 y
    obtain ⟨z_l0, z_l1, z_l2, z_l3, z_l4⟩ := ltF z
    obtain ⟨cc_l0, cc_l1, cc_l2, cc_l3, cc_l4⟩ := ltF cc
    obtain ⟨y_l0, y_l1, y_l2, y_l3, y_l4⟩ := ltF y
    clear hy0
    by_cases hkn : k < N
    · obtain ⟨post, hpost⟩ := allTo_split W H c k N hkn
      have HP := Lib.hid hpost
      clear hpost
      gi_wp2_with fail
      (refine ⟨trivial, rfl, ?_⟩); (refine CallsIn.mono (callsIn_wide.2 (ring_f W H c k _)) ?_); rintro e w2 ⟨rfl, hb2, hm2⟩; have hz2 := hb2.size; (try simp only [World.size_alloc, World.size_setCell, World.size_drew, World.heap_drewN] at hz2); replace z := keepH2 (z) (by repeat (first | exact Below.refl _ _ | (refine Below.alloc ?_ (by ((try simp only [World.size_alloc, World.size_setCell, World.size_drew, World.heap_drewN]); omega)) _) | (refine Below.drewN' ?_ _) | (refine Below.drew ?_) | (refine Below.setCell ?_ (by ((try simp only [World.size_alloc, World.size_setCell, World.size_drew, World.heap_drewN]); omega)) _) | (refine Below.trans ?_ (Below.mono (by assumption) (by ((try simp only [World.size_alloc, World.size_setCell, World.size_drew, World.heap_drewN]); omega)))))) hb2; (try clear z_0); (try clear z_1); (try clear z_0f); (try clear z_1f); (try clear z_l0 z_l1 z_l2 z_l3 z_l4); obtain ⟨z_l0, z_l1, z_l2, z_l3, z_l4⟩ := ltF z; obtain ⟨z_0, z_1, z_0f, z_1f⟩ := cell2 z; replace cc := keepH2 (cc) (by repeat (first | exact Below.refl _ _ | (refine Below.alloc ?_ (by ((try simp only [World.size_alloc, World.size_setCell, World.size_drew, World.heap_drewN]); omega)) _) | (refine Below.drewN' ?_ _) | (refine Below.drew ?_) | (refine Below.setCell ?_ (by ((try simp only [World.size_alloc, World.size_setCell, World.size_drew, World.heap_drewN]); omega)) _) | (refine Below.trans ?_ (Below.mono (by assumption) (by ((try simp only [World.size_alloc, World.size_setCell, World.size_drew, World.heap_drewN]); omega)))))) hb2; (try clear cc_0); (try clear cc_1); (try clear cc_0f); (try clear cc_1f); (try clear cc_l0 cc_l1 cc_l2 cc_l3 cc_l4); obtain ⟨cc_l0, cc_l1, cc_l2, cc_l3, cc_l4⟩ := ltF cc; obtain ⟨cc_0, cc_0f⟩ := cell1 cc; replace y := keepH2 (y) (by repeat (first | exact Below.refl _ _ | (refine Below.alloc ?_ (by ((try simp only [World.size_alloc, World.size_setCell, World.size_drew, World.heap_drewN]); omega)) _) | (refine Below.drewN' ?_ _) | (refine Below.drew ?_) | (refine Below.setCell ?_ (by ((try simp only [World.size_alloc, World.size_setCell, World.size_drew, World.heap_drewN]); omega)) _) | (refine Below.trans ?_ (Below.mono (by assumption) (by ((try simp only [World.size_alloc, World.size_setCell, World.size_drew, World.heap_drewN]); omega)))))) hb2; (try clear y_0); (try clear y_1); (try clear y_0f); (try clear y_1f); (try clear y_l0 y_l1 y_l2 y_l3 y_l4); obtain ⟨y_l0, y_l1, y_l2, y_l3, y_l4⟩ := ltF y; obtain ⟨y_0, y_0f⟩ := cell1 y; have aw := keepH2 (World.alloc_heap_new wr _) (by repeat (first | exact Below.refl _ _ | (refine Below.alloc ?_ (by ((try simp only [World.size_alloc, World.size_setCell, World.size_drew, World.heap_drewN]); omega)) _) | (refine Below.drewN' ?_ _) | (refine Below.drew ?_) | (refine Below.setCell ?_ (by ((try simp only [World.size_alloc, World.size_setCell, World.size_drew, World.heap_drewN]); omega)) _) | (refine Below.trans ?_ (Below.mono (by assumption) (by ((try simp only [World.size_alloc, World.size_setCell, World.size_drew, World.heap_drewN]); omega)))))) hb2; (try simp only [World.size_alloc, World.size_setCell, World.size_drew, World.heap_drewN] at aw); obtain ⟨aw_l0, aw_l1, aw_l2, aw_l3, aw_l4⟩ := ltF aw; obtain ⟨aw_0, aw_0f⟩ := cell1 aw
      obtain ⟨kz, kc, kd⟩ := hm2
      simp only [World.size_alloc] at kz kc kd
      gi_wp2_with fail
      have hMV : Md V.heap.size S V w2 := (by repeat (first | exact Md.refl _ _ _ | (refine Md.alloc ?_ (by ((try simp only [World.size_alloc, World.size_setCell, World.size_drew, World.heap_drewN]); omega)) _) | (refine Md.drewN ?_ _) | (refine Md.drew ?_) | (refine Md.setCell ?_ (by first | exact .inl rfl | exact .inl (.inl rfl) | exact .inl (.inr (.inl rfl)) | exact .inl (.inr (.inr (.inl rfl))) | exact .inl (.inr (.inr rfl)) | exact .inl (.inr rfl) | exact .inl (.inr (.inr (.inr rfl))) | (right; show _ ≤ _; ((try simp only [World.size_alloc, World.size_setCell, World.size_drew, World.heap_drewN]); omega)) | (left; show _; simp [*]; done)) _) | (refine Md.call ?_ (by assumption) (by ((try simp only [World.size_alloc, World.size_setCell, World.size_drew, World.heap_drewN]); omega))) | (refine Md.trans ?_ (by assumption))))
      have hSw : ∀ i, S1 i → w2.heap[i]? = wr.heap[i]? := fun i hi => by
        have := hB i hi
        exact (hb2.block i (by simp only [World.size_alloc]; omega)).trans (Below.heap_alloc _ _ _ this)
      have hdw : ∀ D ∈ ds, D < wr.heap.size ∧ w2.heap[D]? = some (.deferred (some [])) := fun D hD => by
        obtain ⟨h1, h2, h3⟩ := hds D hD
        have hlt := (Array.getElem?_eq_some_iff.1 h2).1
        exact ⟨hlt, ((hb2.block D (by simp only [World.size_alloc]; omega)).trans (Below.heap_alloc _ _ _ hlt)).trans h2⟩
      have hkl := (ltF kd).1
      refine range_top rfl (enters_of Try.func52 (by kernel_rfl) rfl) (ring_iter W H c k w2 _ _ _ kz kc kd) (fun _ => rfl)
        (fun pre S W' => J (allTo W H c k ++ pre.map (fun x => ((k : Int), x))) S W') (fun cd S W' => cd = .ret ∧ Jx S W') S1 (fun pre => hJ _) (fun cd S W W' h he => ⟨h.1, hJx S W W' h.2 he⟩)
        (fun i hi => by have := hB i hi; omega) (by simp only [World.size_alloc] at *; omega) (by simpa using hJ _ S1 wr w2 hj hSw) (fun _ => []) ?a₁ ?assign ?body ?done ?stop
      case assign =>
        intro l x W K hK
        generalize W.heap.size = n at hK
        gi_wp2
        exact hK
      case body =>
        rintro m pre x post' Sx U hpre hm hr hSx hnew hszU hMU hGU hJU
        obtain rfl : U.heap.size = m := by simpa using hszU
        replace y := keepM y hMU (by omega) hSy
        replace aw := keepM aw hMU (by omega) (fun h => by have := hB _ h; omega)
        clear y_0 y_0f aw_0 aw_0f
        obtain ⟨y_0, y_0f⟩ := cell1 y
        obtain ⟨aw_0, aw_0f⟩ := cell1 aw
        obtain ⟨fn, tmps, assign, body, hy, hR⟩ := hY (allTo W H c k ++ pre.map (fun x => ((k : Int), x))) ((k : Int), x) (post'.map (fun x => ((k : Int), x)) ++ post) Sx U (by rw [HE.out, HP.out, hpre]; simp)
          (fun i hi => (hSx i hi).1) (hMV.trans (hMU.mono (by omega) (fun i hi h => (hG i h).resolve_right (by omega)))) (hG.trans hGU (by omega)) hJU
        dsimp only [encII] at hy
        gi_wp2_with fail
        refine ⟨rfl, hR.mono ?_⟩
        rintro e W3 ⟨S3, hG3, hB3, hM3, (⟨rfl, hJ3⟩ | ⟨rfl, hJ3⟩)⟩
        · gi_wp2_with fail
          exact ⟨S3, hG3, hB3, hM3, by simpa using hJ3⟩
        · gi_wp2_with fail
          exact ⟨S3, hG3, hB3, hM3, rfl, hJ3⟩
      case done =>
        rintro S2 U hMU hGU hBU hne hD hJU
        gi_wp2_with fail
        refine ⟨⟨k + 1, S2, w2.heap.size :: ds, _, _, _, _, _, _, _, _, _, _, _, _, _, _, _, rfl, by omega, hG.trans hGU (by omega), hBU, hMV.trans (hMU.mono (by omega) (fun i hi h => (hG i h).resolve_right (by omega))), ?_, ?_, ?_, ?_, ?_⟩, ?_⟩
        · exact hJU
        · intro D hD'
          simp only [List.mem_cons] at hD'
          rcases hD' with rfl | hD'
          · exact ⟨by omega, hD, fun h => (hne _ h).1 rfl⟩
          · obtain ⟨h1, h2, h3⟩ := hds D hD'
            obtain ⟨h4, h5⟩ := hdw D hD'
            exact ⟨h1, keepM h5 hMU (by omega) h3, fun h => (hGU D h).elim h3 (by omega)⟩
        · refine List.nodup_cons.2 ⟨fun h => ?_, hnd⟩
          have := (hdw _ h).1; omega
        · exact keepM y hMU (by omega) hSy
        · exact fun h => (hGU _ h).elim hSy (by omega)
        · simp only [intOf]; simp; omega
      case stop =>
        rintro S2 U cd hMU hGU hBU hne hD ⟨rfl, hJU⟩
        gi_wp2_with fail
        refine end_none (.inl rfl) (w2.heap.size :: ds) V.heap.size rfl rfl ?_ ?_ ?_
        · intro D hD'
          simp only [List.mem_cons] at hD'
          rcases hD' with rfl | hD'
          · exact ⟨by omega, hD⟩
          · obtain ⟨h1, h2, h3⟩ := hds D hD'
            obtain ⟨h4, h5⟩ := hdw D hD'
            exact ⟨h1, keepM h5 hMU (by omega) h3⟩
        · refine List.nodup_cons.2 ⟨fun h => ?_, hnd⟩
          have := (hdw _ h).1; omega
        · intro W' hb hkeep
          have hM' := hMV.trans (hMU.mono (B' := V.heap.size) (S' := S) (by omega) (fun i hi h => (hG i h).resolve_right (by omega)))
          refine ⟨⟨_, rfl⟩, S2, hG.trans hGU (by omega), fun i hi => by have := hBU i hi; have := hb.size; omega, hM'.trans (Md.of_below hb), .inr ?_⟩
          refine hJx S2 U W' hJU (fun i hi => hkeep i (fun h => ?_))
          simp only [List.mem_cons] at h
          rcases h with rfl | h
          · exact (hne _ hi).1 rfl
          · exact (hGU _ hi).elim (hds i h).2.2 (by have := (hdw i h).1; omega)
    · obtain rfl : k = N := by omega
      gi_wp2_with fail
      refine end_none (.inr rfl) ds V.heap.size rfl rfl (fun D hD => ⟨(hds D hD).1, (hds D hD).2.1⟩) hnd ?_
      intro W' hb hkeep
      have hkS : ∀ i, S1 i → W'.heap[i]? = wr.heap[i]? := fun i hi => hkeep i (fun h => (hds i h).2.2 hi)
      refine ⟨⟨_, rfl⟩, S1, hG, fun i hi => by have := hB i hi; have := hb.size; omega, hM.trans (Md.of_below hb), .inl ?_⟩
      rw [HE.out]; exact hJ _ S1 wr W' hj hkS
end Go.Proofs.Ytekpjmdkihnpeaa
