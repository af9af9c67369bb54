/- The examples of chapter 17, as each law asks them first. -/
import Derived.Test.YtekpjmdkihnpeaaAll
import Derived.Test.YtekpjmdkihnpeaaAwake1
namespace Go.Proofs.Ytekpjmdkihnpeaa
set_option linter.unusedSimpArgs false
set_option linter.unusedVariables false
open Go.RowKit Go.Shelf Go.Sort

attribute [local go_sem] Oper.semAt_some

/-- m = 100*m + 10*away + c. -/
def digs2 (l : List (Int × Int)) : Int := l.foldl (fun m p => 100 * m + 10 * p.1 + p.2) 0
theorem digs2_snoc (l : List (Int × Int)) (p : Int × Int) : digs2 (l ++ [p]) = 100 * digs2 l + 10 * p.1 + p.2 := by simp [digs2, List.foldl_append]

set_option maxRecDepth 100000 in
set_option maxHeartbeats 4000000 in
theorem awake17_any (w : World) : Calls Try.prog 34 #[] w fun e w' => e = .returned (.bool true) ∧ Below w.heap.size w w' := by
  refine calls_of_wide ?_
  have hL1 : ringL 4 3 5 1 = [1, 4, 6, 9] := by decide
  have hL2 : (allL 4 3 0).take 5 = [(0, 0), (1, 1), (1, 4), (2, 2), (2, 5)] := by decide
  have hL2n : 5 < (allL 4 3 0).length := by decide
  have hld : lastD 4 3 5 = 3 := by decide
  (refine callsIn_of_wp_marks Try.func34 rfl trivial ?_ rfl); simp only [Try.ntmps34, List.size_toArray, List.length_cons, List.length_nil, Nat.reduceAdd, Nat.reduceSub, Array.replicate_succ, Array.replicate_zero, List.push_toArray, List.append_toArray, List.nil_append, List.cons_append]
  gi_wp2_with fail
  (refine ⟨trivial, rfl, ?_⟩); (refine CallsIn.mono (callsIn_wide.2 (ring_f 4 3 5 1 _)) ?_); rintro e w1 ⟨rfl, hb1, hm1⟩; have hz1 := hb1.size; (try simp only [World.size_alloc, World.size_setCell, World.size_drew, World.heap_drewN] at hz1); have z := keepH2 (World.alloc_heap_new w _) (by repeat (first | exact Below.refl _ _ | (refine Below.alloc ?_ (by ((try simp only [World.size_alloc, World.size_setCell, World.size_drew, World.heap_drewN]); omega)) _) | (refine Below.drewN' ?_ _) | (refine Below.drew ?_) | (refine Below.setCell ?_ (by ((try simp only [World.size_alloc, World.size_setCell, World.size_drew, World.heap_drewN]); omega)) _) | (refine Below.trans ?_ (Below.mono (by assumption) (by ((try simp only [World.size_alloc, World.size_setCell, World.size_drew, World.heap_drewN]); omega)))))) hb1; (try simp only [World.size_alloc, World.size_setCell, World.size_drew, World.heap_drewN] at z); obtain ⟨z_l0, z_l1, z_l2, z_l3, z_l4⟩ := ltF z; obtain ⟨z_0, z_1, z_0f, z_1f⟩ := cell2 z; have n := keepH2 (World.alloc_heap_new (w.alloc _) _) (by repeat (first | exact Below.refl _ _ | (refine Below.alloc ?_ (by ((try simp only [World.size_alloc, World.size_setCell, World.size_drew, World.heap_drewN]); omega)) _) | (refine Below.drewN' ?_ _) | (refine Below.drew ?_) | (refine Below.setCell ?_ (by ((try simp only [World.size_alloc, World.size_setCell, World.size_drew, World.heap_drewN]); omega)) _) | (refine Below.trans ?_ (Below.mono (by assumption) (by ((try simp only [World.size_alloc, World.size_setCell, World.size_drew, World.heap_drewN]); omega)))))) hb1; (try simp only [World.size_alloc, World.size_setCell, World.size_drew, World.heap_drewN] at n); obtain ⟨n_l0, n_l1, n_l2, n_l3, n_l4⟩ := ltF n; obtain ⟨n_0, n_0f⟩ := cell1 n
  clear hm1
  gi_wp2_with fail
  (refine ⟨trivial, rfl, ?_⟩); (refine CallsIn.mono (callsIn_wide.2 (ring_f 4 3 5 1 _)) ?_); rintro e w2 ⟨rfl, hb2, hm2⟩; have hz2 := hb2.size; (try simp only [World.size_alloc, World.size_setCell, World.size_drew, World.heap_drewN] at hz2); replace z := keepH2 (z) (by repeat (first | exact Below.refl _ _ | (refine Below.alloc ?_ (by ((try simp only [World.size_alloc, World.size_setCell, World.size_drew, World.heap_drewN]); omega)) _) | (refine Below.drewN' ?_ _) | (refine Below.drew ?_) | (refine Below.setCell ?_ (by ((try simp only [World.size_alloc, World.size_setCell, World.size_drew, World.heap_drewN]); omega)) _) | (refine Below.trans ?_ (Below.mono (by assumption) (by ((try simp only [World.size_alloc, World.size_setCell, World.size_drew, World.heap_drewN]); omega)))))) hb2; (try clear z_0); (try clear z_1); (try clear z_0f); (try clear z_1f); (try clear z_l0 z_l1 z_l2 z_l3 z_l4); obtain ⟨z_l0, z_l1, z_l2, z_l3, z_l4⟩ := ltF z; obtain ⟨z_0, z_1, z_0f, z_1f⟩ := cell2 z; replace n := keepH2 (n) (by repeat (first | exact Below.refl _ _ | (refine Below.alloc ?_ (by ((try simp only [World.size_alloc, World.size_setCell, World.size_drew, World.heap_drewN]); omega)) _) | (refine Below.drewN' ?_ _) | (refine Below.drew ?_) | (refine Below.setCell ?_ (by ((try simp only [World.size_alloc, World.size_setCell, World.size_drew, World.heap_drewN]); omega)) _) | (refine Below.trans ?_ (Below.mono (by assumption) (by ((try simp only [World.size_alloc, World.size_setCell, World.size_drew, World.heap_drewN]); omega)))))) hb2; (try clear n_0); (try clear n_1); (try clear n_0f); (try clear n_1f); (try clear n_l0 n_l1 n_l2 n_l3 n_l4); obtain ⟨n_l0, n_l1, n_l2, n_l3, n_l4⟩ := ltF n; obtain ⟨n_0, n_0f⟩ := cell1 n
  obtain ⟨kz, kc, kd⟩ := hm2
  have hkl := (ltF kd).1
  gi_wp2_with fail
  have hbV : Below w.heap.size w w2 := (by repeat (first | exact Below.refl _ _ | (refine Below.alloc ?_ (by ((try simp only [World.size_alloc, World.size_setCell, World.size_drew, World.heap_drewN]); omega)) _) | (refine Below.drewN' ?_ _) | (refine Below.drew ?_) | (refine Below.setCell ?_ (by ((try simp only [World.size_alloc, World.size_setCell, World.size_drew, World.heap_drewN]); omega)) _) | (refine Below.trans ?_ (Below.mono (by assumption) (by ((try simp only [World.size_alloc, World.size_setCell, World.size_drew, World.heap_drewN]); omega))))))
  refine range_fix rfl (enters_of Try.func52 (by kernel_rfl) rfl) (ring_iter 4 3 5 1 w2 _ _ _ kz kc kd) (fun _ => rfl)
    (fun k => k = w.heap.size + 1) (fun pre W => Boxed W (w.heap.size + 1) 3 (.int .i64 (digs 10 pre))) (fun _ _ => False)
    (fun pre W W' h he => Boxed.stab h he rfl) (fun _ _ _ h _ => h) (by omega) (by omega) n (fun _ => []) ?a₁ ?assign ?body ?done ?stop
  case assign =>
    intro l x W n K hn hK
    gi_wp2
    exact hK
  case body =>
    rintro m pre x post U hpre hm hr hnew hszU hMU hn
    obtain ⟨nc, nf⟩ := cell1 hn
    have hb : 0 ≤ digs 10 pre ∧ digs 10 pre ≤ 1000 ∧ 0 ≤ x ∧ x ≤ 9 := by
      rw [hL1] at hpre
      obtain ⟨h1, h2, h3⟩ := pre_cases hpre
      generalize pre.length = k at *
      subst h2
      rcases k with _ | _ | _ | _ | k <;> simp [digs] at h1 h3 ⊢ <;> omega
    obtain ⟨q1, q2, q3, q4⟩ := hb
    gi_wp2
    exact ⟨(by repeat (first | exact Md.refl _ _ _ | (refine Md.alloc ?_ (by ((try simp only [World.size_alloc, World.size_setCell, World.size_drew, World.heap_drewN]); omega)) _) | (refine Md.drewN ?_ _) | (refine Md.drew ?_) | (refine Md.setCell ?_ (by first | exact .inl rfl | exact .inl (.inl rfl) | exact .inl (.inr (.inl rfl)) | exact .inl (.inr (.inr (.inl rfl))) | exact .inl (.inr (.inr rfl)) | exact .inl (.inr rfl) | exact .inl (.inr (.inr (.inr rfl))) | (right; show _ ≤ _; ((try simp only [World.size_alloc, World.size_setCell, World.size_drew, World.heap_drewN]); omega)) | (left; show _; simp [*]; done)) _) | (refine Md.call ?_ (by assumption) (by ((try simp only [World.size_alloc, World.size_setCell, World.size_drew, World.heap_drewN]); omega))) | (refine Md.trans ?_ (by assumption)))), by rw [digs_snoc]; exact (by simp only [Boxed, hp_alloc, hp_drewN, hp_drew, if_true, World.size_alloc, World.size_setCell, World.size_drew, World.heap_drewN]; repeat (first | rw [if_true] | rw [if_pos (by omega)] | rw [if_neg (by omega)] | rw [hp_set_ne _ _ _ _ _ (by omega)] | rw [hp_set_eq (by assumption)]); try first | rfl | assumption | (apply hp_set_eq; (repeat (rw [hp_set_ne _ _ _ _ _ (by omega)])); assumption))⟩
  case stop =>
    rintro U c hMU hlt hK h
    exact h.elim
  case done =>
    rintro U hMU hlt hK hn
    rw [hL1] at hn
    have hn : Boxed U (w.heap.size + 1) 3 (.int .i64 1469) := hn
    have hbU : Below w.heap.size w2 U := (hMU.mono (B' := w.heap.size) (S' := NoB) (by omega) (by intro k hk h; omega)).below
    have hbwU : Below w.heap.size w U := hbV.trans hbU
    clear n_0 n_0f n_l0 n_l1 n_l2 n_l3 n_l4 n
    skip; replace z := keepM (z) hMU (by omega) (by omega); (try clear z_0); (try clear z_1); (try clear z_0f); (try clear z_1f); (try clear z_l0 z_l1 z_l2 z_l3 z_l4); obtain ⟨z_l0, z_l1, z_l2, z_l3, z_l4⟩ := ltF z; obtain ⟨z_0, z_1, z_0f, z_1f⟩ := cell2 z
    have n := hn
    obtain ⟨n_0, n_0f⟩ := cell1 n
    obtain ⟨n_l0, n_l1, n_l2, n_l3, n_l4⟩ := ltF n
    clear hn hb1 hb2 hbV hbU kz kc kd
    have hUs := hbwU.size
    gi_wp2_with fail
    (refine ⟨trivial, rfl, ?_⟩); (refine CallsIn.mono (callsIn_wide.2 (all_f 4 3 0 _)) ?_); rintro e w5 ⟨rfl, hb5, hm5⟩; have hz5 := hb5.size; (try simp only [World.size_alloc, World.size_setCell, World.size_drew, World.heap_drewN] at hz5); replace z := keepH2 (z) (by repeat (first | exact Below.refl _ _ | (refine Below.alloc ?_ (by ((try simp only [World.size_alloc, World.size_setCell, World.size_drew, World.heap_drewN]); omega)) _) | (refine Below.drewN' ?_ _) | (refine Below.drew ?_) | (refine Below.setCell ?_ (by ((try simp only [World.size_alloc, World.size_setCell, World.size_drew, World.heap_drewN]); omega)) _) | (refine Below.trans ?_ (Below.mono (by assumption) (by ((try simp only [World.size_alloc, World.size_setCell, World.size_drew, World.heap_drewN]); omega)))))) hb5; (try clear z_0); (try clear z_1); (try clear z_0f); (try clear z_1f); (try clear z_l0 z_l1 z_l2 z_l3 z_l4); obtain ⟨z_l0, z_l1, z_l2, z_l3, z_l4⟩ := ltF z; obtain ⟨z_0, z_1, z_0f, z_1f⟩ := cell2 z; replace n := keepH2 (n) (by repeat (first | exact Below.refl _ _ | (refine Below.alloc ?_ (by ((try simp only [World.size_alloc, World.size_setCell, World.size_drew, World.heap_drewN]); omega)) _) | (refine Below.drewN' ?_ _) | (refine Below.drew ?_) | (refine Below.setCell ?_ (by ((try simp only [World.size_alloc, World.size_setCell, World.size_drew, World.heap_drewN]); omega)) _) | (refine Below.trans ?_ (Below.mono (by assumption) (by ((try simp only [World.size_alloc, World.size_setCell, World.size_drew, World.heap_drewN]); omega)))))) hb5; (try clear n_0); (try clear n_1); (try clear n_0f); (try clear n_1f); (try clear n_l0 n_l1 n_l2 n_l3 n_l4); obtain ⟨n_l0, n_l1, n_l2, n_l3, n_l4⟩ := ltF n; obtain ⟨n_0, n_0f⟩ := cell1 n; have m := keepH2 (World.alloc_heap_new U _) (by repeat (first | exact Below.refl _ _ | (refine Below.alloc ?_ (by ((try simp only [World.size_alloc, World.size_setCell, World.size_drew, World.heap_drewN]); omega)) _) | (refine Below.drewN' ?_ _) | (refine Below.drew ?_) | (refine Below.setCell ?_ (by ((try simp only [World.size_alloc, World.size_setCell, World.size_drew, World.heap_drewN]); omega)) _) | (refine Below.trans ?_ (Below.mono (by assumption) (by ((try simp only [World.size_alloc, World.size_setCell, World.size_drew, World.heap_drewN]); omega)))))) hb5; (try simp only [World.size_alloc, World.size_setCell, World.size_drew, World.heap_drewN] at m); obtain ⟨m_l0, m_l1, m_l2, m_l3, m_l4⟩ := ltF m; obtain ⟨m_0, m_0f⟩ := cell1 m; have k := keepH2 (World.alloc_heap_new (U.alloc _) _) (by repeat (first | exact Below.refl _ _ | (refine Below.alloc ?_ (by ((try simp only [World.size_alloc, World.size_setCell, World.size_drew, World.heap_drewN]); omega)) _) | (refine Below.drewN' ?_ _) | (refine Below.drew ?_) | (refine Below.setCell ?_ (by ((try simp only [World.size_alloc, World.size_setCell, World.size_drew, World.heap_drewN]); omega)) _) | (refine Below.trans ?_ (Below.mono (by assumption) (by ((try simp only [World.size_alloc, World.size_setCell, World.size_drew, World.heap_drewN]); omega)))))) hb5; (try simp only [World.size_alloc, World.size_setCell, World.size_drew, World.heap_drewN] at k); obtain ⟨k_l0, k_l1, k_l2, k_l3, k_l4⟩ := ltF k; obtain ⟨k_0, k_0f⟩ := cell1 k
    clear hm5
    gi_wp2_with fail
    (refine ⟨trivial, rfl, ?_⟩); (refine CallsIn.mono (callsIn_wide.2 (all_f 4 3 0 _)) ?_); rintro e w6 ⟨rfl, hb6, hm6⟩; have hz6 := hb6.size; (try simp only [World.size_alloc, World.size_setCell, World.size_drew, World.heap_drewN] at hz6); replace z := keepH2 (z) (by repeat (first | exact Below.refl _ _ | (refine Below.alloc ?_ (by ((try simp only [World.size_alloc, World.size_setCell, World.size_drew, World.heap_drewN]); omega)) _) | (refine Below.drewN' ?_ _) | (refine Below.drew ?_) | (refine Below.setCell ?_ (by ((try simp only [World.size_alloc, World.size_setCell, World.size_drew, World.heap_drewN]); omega)) _) | (refine Below.trans ?_ (Below.mono (by assumption) (by ((try simp only [World.size_alloc, World.size_setCell, World.size_drew, World.heap_drewN]); omega)))))) hb6; (try clear z_0); (try clear z_1); (try clear z_0f); (try clear z_1f); (try clear z_l0 z_l1 z_l2 z_l3 z_l4); obtain ⟨z_l0, z_l1, z_l2, z_l3, z_l4⟩ := ltF z; obtain ⟨z_0, z_1, z_0f, z_1f⟩ := cell2 z; replace n := keepH2 (n) (by repeat (first | exact Below.refl _ _ | (refine Below.alloc ?_ (by ((try simp only [World.size_alloc, World.size_setCell, World.size_drew, World.heap_drewN]); omega)) _) | (refine Below.drewN' ?_ _) | (refine Below.drew ?_) | (refine Below.setCell ?_ (by ((try simp only [World.size_alloc, World.size_setCell, World.size_drew, World.heap_drewN]); omega)) _) | (refine Below.trans ?_ (Below.mono (by assumption) (by ((try simp only [World.size_alloc, World.size_setCell, World.size_drew, World.heap_drewN]); omega)))))) hb6; (try clear n_0); (try clear n_1); (try clear n_0f); (try clear n_1f); (try clear n_l0 n_l1 n_l2 n_l3 n_l4); obtain ⟨n_l0, n_l1, n_l2, n_l3, n_l4⟩ := ltF n; obtain ⟨n_0, n_0f⟩ := cell1 n; replace m := keepH2 (m) (by repeat (first | exact Below.refl _ _ | (refine Below.alloc ?_ (by ((try simp only [World.size_alloc, World.size_setCell, World.size_drew, World.heap_drewN]); omega)) _) | (refine Below.drewN' ?_ _) | (refine Below.drew ?_) | (refine Below.setCell ?_ (by ((try simp only [World.size_alloc, World.size_setCell, World.size_drew, World.heap_drewN]); omega)) _) | (refine Below.trans ?_ (Below.mono (by assumption) (by ((try simp only [World.size_alloc, World.size_setCell, World.size_drew, World.heap_drewN]); omega)))))) hb6; (try clear m_0); (try clear m_1); (try clear m_0f); (try clear m_1f); (try clear m_l0 m_l1 m_l2 m_l3 m_l4); obtain ⟨m_l0, m_l1, m_l2, m_l3, m_l4⟩ := ltF m; obtain ⟨m_0, m_0f⟩ := cell1 m; replace k := keepH2 (k) (by repeat (first | exact Below.refl _ _ | (refine Below.alloc ?_ (by ((try simp only [World.size_alloc, World.size_setCell, World.size_drew, World.heap_drewN]); omega)) _) | (refine Below.drewN' ?_ _) | (refine Below.drew ?_) | (refine Below.setCell ?_ (by ((try simp only [World.size_alloc, World.size_setCell, World.size_drew, World.heap_drewN]); omega)) _) | (refine Below.trans ?_ (Below.mono (by assumption) (by ((try simp only [World.size_alloc, World.size_setCell, World.size_drew, World.heap_drewN]); omega)))))) hb6; (try clear k_0); (try clear k_1); (try clear k_0f); (try clear k_1f); (try clear k_l0 k_l1 k_l2 k_l3 k_l4); obtain ⟨k_l0, k_l1, k_l2, k_l3, k_l4⟩ := ltF k; obtain ⟨k_0, k_0f⟩ := cell1 k
    obtain ⟨kz, kc⟩ := hm6
    have hkl := (ltF kc).1
    gi_wp2_with fail
    have hK6 : w6.heap[w2.heap.size]? = some (.deferred (some [])) := keepH1 hK (by repeat (first | exact Below.refl _ _ | (refine Below.alloc ?_ (by ((try simp only [World.size_alloc, World.size_setCell, World.size_drew, World.heap_drewN]); omega)) _) | (refine Below.drewN' ?_ _) | (refine Below.drew ?_) | (refine Below.setCell ?_ (by ((try simp only [World.size_alloc, World.size_setCell, World.size_drew, World.heap_drewN]); omega)) _) | (refine Below.trans ?_ (Below.mono (by assumption) (by ((try simp only [World.size_alloc, World.size_setCell, World.size_drew, World.heap_drewN]); omega))))))
    have hb6 : Below w.heap.size w w6 := (by repeat (first | exact Below.refl _ _ | (refine Below.alloc ?_ (by ((try simp only [World.size_alloc, World.size_setCell, World.size_drew, World.heap_drewN]); omega)) _) | (refine Below.drewN' ?_ _) | (refine Below.drew ?_) | (refine Below.setCell ?_ (by ((try simp only [World.size_alloc, World.size_setCell, World.size_drew, World.heap_drewN]); omega)) _) | (refine Below.trans ?_ (Below.mono (by assumption) (by ((try simp only [World.size_alloc, World.size_setCell, World.size_drew, World.heap_drewN]); omega))))))
    refine range_fix rfl (enters_of Try.func53 (by kernel_rfl) rfl) (all_iter 4 3 0 w6 _ _ kz kc) (fun _ => rfl)
      (fun k => k = U.heap.size ∨ k = U.heap.size + 1) (fun pre W => Boxed W U.heap.size 3 (.int .i64 (digs2 pre)) ∧ Boxed W (U.heap.size + 1) 3 (.int .i64 pre.length) ∧ pre.length ≤ 5)
      (fun c W => c = .exit 2 ∧ Boxed W U.heap.size 3 (.int .i64 11142225))
      (fun pre W W' h he => ⟨h.1.stab he (.inl rfl), h.2.1.stab he (.inr rfl), h.2.2⟩) (fun _ _ _ h he => ⟨h.1, h.2.stab he (.inl rfl)⟩) (by omega) (by omega) ⟨m, k, by simp⟩ (fun _ => []) ?a₂ ?assign2 ?body2 ?done2 ?stop2
    case assign2 =>
      intro l x W n K hn hK
      gi_wp2
      exact hK
    case body2 =>
      rintro mm pre x post U2 hpre hm hr hnew hszU hMU2 ⟨hm', hk', hlen⟩
      skip; replace z := keepM (z) hMU2 (by omega) (by omega); (try clear z_0); (try clear z_1); (try clear z_0f); (try clear z_1f); (try clear z_l0 z_l1 z_l2 z_l3 z_l4); obtain ⟨z_l0, z_l1, z_l2, z_l3, z_l4⟩ := ltF z; obtain ⟨z_0, z_1, z_0f, z_1f⟩ := cell2 z
      obtain ⟨m_0', m_0f'⟩ := cell1 hm'
      obtain ⟨k_0', k_0f'⟩ := cell1 hk'
      obtain ⟨h1, h2, h3⟩ := pre_cases hpre
      by_cases h5 : pre.length = 5
      · rw [h5, hL2] at h2
        have hm2 : Boxed U2 U.heap.size 3 (.int .i64 11142225) := by rw [h2] at hm'; exact hm'
        rw [h5] at k_0'
        clear h1 h2 h3 hpre
        gi_wp2_with fail
        exact ⟨(by repeat (first | exact Md.refl _ _ _ | (refine Md.alloc ?_ (by ((try simp only [World.size_alloc, World.size_setCell, World.size_drew, World.heap_drewN]); omega)) _) | (refine Md.drewN ?_ _) | (refine Md.drew ?_) | (refine Md.setCell ?_ (by first | exact .inl rfl | exact .inl (.inl rfl) | exact .inl (.inr (.inl rfl)) | exact .inl (.inr (.inr (.inl rfl))) | exact .inl (.inr (.inr rfl)) | exact .inl (.inr rfl) | exact .inl (.inr (.inr (.inr rfl))) | (right; show _ ≤ _; ((try simp only [World.size_alloc, World.size_setCell, World.size_drew, World.heap_drewN]); omega)) | (left; show _; simp [*]; done)) _) | (refine Md.call ?_ (by assumption) (by ((try simp only [World.size_alloc, World.size_setCell, World.size_drew, World.heap_drewN]); omega))) | (refine Md.trans ?_ (by assumption)))), rfl, hm2⟩
      · have hb : 0 ≤ digs2 pre ∧ digs2 pre ≤ 111422 ∧ 0 ≤ x.1 ∧ x.1 ≤ 2 ∧ 0 ≤ x.2 ∧ x.2 ≤ 5 := by
          have h2' : pre = ((allL 4 3 0).take 5).take pre.length := by rw [List.take_take, Nat.min_eq_left hlen]; exact h2
          have h3' : ((allL 4 3 0).take 5)[pre.length]? = some x := by rw [List.getElem?_take_of_lt (by omega)]; exact h3
          rw [hL2] at h2' h3'
          clear h1 h2 h3 hpre hm' hk' m_0' k_0'
          generalize pre.length = j at *
          subst h2'
          rcases j with _ | _ | _ | _ | _ | j <;> simp at h3' <;> subst h3' <;> simp [digs2]
        obtain ⟨q1, q2, q3, q4, q5, q6⟩ := hb
        clear h1 h2 h3 hpre
        have hp1 : ((pre ++ [x]).length : Int) = (pre.length : Int) + 1 := by simp
        have Hp1 := Lib.hid hp1
        clear hp1
        have hk5 : (pre.length : Int) < 5 := by omega
        gi_wp2_with fail
        exact ⟨(by repeat (first | exact Md.refl _ _ _ | (refine Md.alloc ?_ (by ((try simp only [World.size_alloc, World.size_setCell, World.size_drew, World.heap_drewN]); omega)) _) | (refine Md.drewN ?_ _) | (refine Md.drew ?_) | (refine Md.setCell ?_ (by first | exact .inl rfl | exact .inl (.inl rfl) | exact .inl (.inr (.inl rfl)) | exact .inl (.inr (.inr (.inl rfl))) | exact .inl (.inr (.inr rfl)) | exact .inl (.inr rfl) | exact .inl (.inr (.inr (.inr rfl))) | (right; show _ ≤ _; ((try simp only [World.size_alloc, World.size_setCell, World.size_drew, World.heap_drewN]); omega)) | (left; show _; simp [*]; done)) _) | (refine Md.call ?_ (by assumption) (by ((try simp only [World.size_alloc, World.size_setCell, World.size_drew, World.heap_drewN]); omega))) | (refine Md.trans ?_ (by assumption)))), by rw [digs2_snoc]; exact (Boxed.set _ hm').other (by omega) _, by rw [Hp1.out]; exact (Boxed.other hk' (by omega) _).set _, by simp; omega⟩
    case done2 =>
      rintro U2 hMU2 hlt2 hK2 ⟨hm', hk', hlen⟩
      omega
    case stop2 =>
      rintro U2 c hMU2 hlt2 hK2 ⟨rfl, hm'⟩
      skip; replace z := keepM (z) hMU2 (by omega) (by omega); (try clear z_0); (try clear z_1); (try clear z_0f); (try clear z_1f); (try clear z_l0 z_l1 z_l2 z_l3 z_l4); obtain ⟨z_l0, z_l1, z_l2, z_l3, z_l4⟩ := ltF z; obtain ⟨z_0, z_1, z_0f, z_1f⟩ := cell2 z
      have n := keepM n hMU2 (by omega) (by omega)
      have hb2 : Below w.heap.size w6 U2 := (hMU2.mono (B' := w.heap.size) (S' := NoB) (by omega) (by intro k hk h; omega)).below
      have hbw2 : Below w.heap.size w U2 := hb6.trans hb2
      have hK2' : U2.heap[w2.heap.size]? = some (.deferred (some [])) := keepM hK6 hMU2 (by omega) (by omega)
      clear hb2 hb5 hb6
      obtain ⟨n_0, n_0f⟩ := cell1 n
      obtain ⟨m_0, m_0f⟩ := cell1 hm'
      gi_wp2_with fail
      (refine ⟨trivial, rfl, ?_⟩); (refine CallsIn.mono (callsIn_wide.2 (last_any 4 3 5 _)) ?_); rintro e w8 ⟨rfl, hb8⟩; have hz8 := hb8.size; (try simp only [World.size_alloc, World.size_setCell, World.size_drew, World.heap_drewN] at hz8); replace z := keepH2 (z) (by repeat (first | exact Below.refl _ _ | (refine Below.alloc ?_ (by ((try simp only [World.size_alloc, World.size_setCell, World.size_drew, World.heap_drewN]); omega)) _) | (refine Below.drewN' ?_ _) | (refine Below.drew ?_) | (refine Below.setCell ?_ (by ((try simp only [World.size_alloc, World.size_setCell, World.size_drew, World.heap_drewN]); omega)) _) | (refine Below.trans ?_ (Below.mono (by assumption) (by ((try simp only [World.size_alloc, World.size_setCell, World.size_drew, World.heap_drewN]); omega)))))) hb8; (try clear z_0); (try clear z_1); (try clear z_0f); (try clear z_1f); (try clear z_l0 z_l1 z_l2 z_l3 z_l4); obtain ⟨z_l0, z_l1, z_l2, z_l3, z_l4⟩ := ltF z; obtain ⟨z_0, z_1, z_0f, z_1f⟩ := cell2 z
      rw [hld]
      gi_wp2_with fail
      refine end_tmp [w6.heap.size, w2.heap.size] (w.heap.size + 1) rfl rfl ?_ (by simp; omega) ?_
      · intro D hD
        simp only [List.mem_cons, List.not_mem_nil, or_false] at hD
        rcases hD with rfl | rfl
        · exact ⟨by omega, keepH1 hK2 (by repeat (first | exact Below.refl _ _ | (refine Below.alloc ?_ (by ((try simp only [World.size_alloc, World.size_setCell, World.size_drew, World.heap_drewN]); omega)) _) | (refine Below.drewN' ?_ _) | (refine Below.drew ?_) | (refine Below.setCell ?_ (by ((try simp only [World.size_alloc, World.size_setCell, World.size_drew, World.heap_drewN]); omega)) _) | (refine Below.trans ?_ (Below.mono (by assumption) (by ((try simp only [World.size_alloc, World.size_setCell, World.size_drew, World.heap_drewN]); omega))))))⟩
        · exact ⟨by omega, keepH1 hK2' (by repeat (first | exact Below.refl _ _ | (refine Below.alloc ?_ (by ((try simp only [World.size_alloc, World.size_setCell, World.size_drew, World.heap_drewN]); omega)) _) | (refine Below.drewN' ?_ _) | (refine Below.drew ?_) | (refine Below.setCell ?_ (by ((try simp only [World.size_alloc, World.size_setCell, World.size_drew, World.heap_drewN]); omega)) _) | (refine Below.trans ?_ (Below.mono (by assumption) (by ((try simp only [World.size_alloc, World.size_setCell, World.size_drew, World.heap_drewN]); omega))))))⟩
      · intro W' hb _
        exact ⟨rfl, (by repeat (first | exact Below.refl _ _ | (refine Below.alloc ?_ (by ((try simp only [World.size_alloc, World.size_setCell, World.size_drew, World.heap_drewN]); omega)) _) | (refine Below.drewN' ?_ _) | (refine Below.drew ?_) | (refine Below.setCell ?_ (by ((try simp only [World.size_alloc, World.size_setCell, World.size_drew, World.heap_drewN]); omega)) _) | (refine Below.trans ?_ (Below.mono (by assumption) (by ((try simp only [World.size_alloc, World.size_setCell, World.size_drew, World.heap_drewN]); omega))))))⟩
end Go.Proofs.Ytekpjmdkihnpeaa
