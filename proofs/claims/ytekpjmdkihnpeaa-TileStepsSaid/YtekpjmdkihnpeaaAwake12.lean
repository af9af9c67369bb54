/- The examples of chapter 12, as each law asks them first. -/
import Derived.Test.YtekpjmdkihnpeaaTileIt
import Derived.Test.YtekpjmdkihnpeaaAwake1
namespace Go.Proofs.Ytekpjmdkihnpeaa
set_option linter.unusedSimpArgs false
set_option linter.unusedVariables false
open Go.RowKit Go.Shelf Go.Sort

attribute [local go_sem] Oper.semAt_some

theorem succ_len {α : Type} (l : List α) (x : α) : ((l ++ [x]).length : Int) = (l.length : Int) + 1 := by simp

set_option maxRecDepth 100000 in
set_option maxHeartbeats 4000000 in
theorem awake12_any (w : World) : Calls Try.prog 42 #[] w fun e w' => e = .returned (.bool true) ∧ Below w.heap.size w w' := by
  refine calls_of_wide ?_
  have hL1 : (tcells 20 10 5).length = 8 := by decide
  have hL2 : nearL (tW 20 10) (tH 20 10) 1 = [0, 2, 4] := by decide
  have e1 : tOf 20 10 160 = 3 := by decide
  have e2 : atB 20 10 160 = true := by decide
  have e3 : bX 20 10 5 = 16 := by decide
  have e4 : bY 20 10 5 = 8 := by decide
  have e5 : bWd 20 10 5 = 4 := by decide
  have e6 : bHt 20 10 5 = 2 := by decide
  have e7 : bB 20 10 5 = true := by decide
  have e8 : tCount 20 10 = 6 := by decide
  have e9 : tAway 20 10 0 4 = 16 := by decide
  have HL1 := Lib.hid hL1
  have HL2 := Lib.hid hL2
  clear hL1 hL2
  (refine callsIn_of_wp_marks Try.func42 rfl trivial ?_ rfl); simp only [Try.ntmps42, List.size_toArray, List.length_cons, List.length_nil, Nat.reduceAdd, Nat.reduceSub, Array.replicate_succ, Array.replicate_zero, List.push_toArray, List.append_toArray, List.nil_append, List.cons_append]
  gi_wp2_with fail
  (refine ⟨trivial, rfl, ?_⟩); (refine CallsIn.mono (callsIn_wide.2 (tof_any 20 10 160 _)) ?_); rintro e w1 ⟨rfl, hb1⟩; have hz1 := hb1.size; (try simp only [World.size_alloc, World.size_setCell, World.size_drew, World.heap_drewN] at hz1); have z := keepH2 (World.alloc_heap_new w _) (by repeat (first | exact Below.refl _ _ | (refine Below.alloc ?_ (by ((try simp only [World.size_alloc, World.size_setCell, World.size_drew, World.heap_drewN]); omega)) _) | (refine Below.drewN' ?_ _) | (refine Below.drew ?_) | (refine Below.setCell ?_ (by ((try simp only [World.size_alloc, World.size_setCell, World.size_drew, World.heap_drewN]); omega)) _) | (refine Below.trans ?_ (Below.mono (by assumption) (by ((try simp only [World.size_alloc, World.size_setCell, World.size_drew, World.heap_drewN]); omega)))))) hb1; (try simp only [World.size_alloc, World.size_setCell, World.size_drew, World.heap_drewN] at z); obtain ⟨z_l0, z_l1, z_l2, z_l3, z_l4⟩ := ltF z; obtain ⟨z_0, z_1, z_0f, z_1f⟩ := cell2 z
  rw [e1, e2]
  gi_wp2_with fail
  (refine ⟨trivial, rfl, ?_⟩); (refine CallsIn.mono (callsIn_wide.2 (box_any 20 10 5 _)) ?_); rintro e w2 ⟨rfl, hb2⟩; have hz2 := hb2.size; (try simp only [World.size_alloc, World.size_setCell, World.size_drew, World.heap_drewN] at hz2); replace z := keepH2 (z) (by repeat (first | exact Below.refl _ _ | (refine Below.alloc ?_ (by ((try simp only [World.size_alloc, World.size_setCell, World.size_drew, World.heap_drewN]); omega)) _) | (refine Below.drewN' ?_ _) | (refine Below.drew ?_) | (refine Below.setCell ?_ (by ((try simp only [World.size_alloc, World.size_setCell, World.size_drew, World.heap_drewN]); omega)) _) | (refine Below.trans ?_ (Below.mono (by assumption) (by ((try simp only [World.size_alloc, World.size_setCell, World.size_drew, World.heap_drewN]); omega)))))) hb2; (try clear z_0); (try clear z_1); (try clear z_0f); (try clear z_1f); (try clear z_l0 z_l1 z_l2 z_l3 z_l4); obtain ⟨z_l0, z_l1, z_l2, z_l3, z_l4⟩ := ltF z; obtain ⟨z_0, z_1, z_0f, z_1f⟩ := cell2 z
  rw [e3, e4, e5, e6, e7]
  gi_wp2_with fail
  (refine ⟨trivial, rfl, ?_⟩); (refine CallsIn.mono (callsIn_wide.2 (tcells_f 20 10 5 _)) ?_); rintro e w3 ⟨rfl, hb3, hm3⟩; have hz3 := hb3.size; (try simp only [World.size_alloc, World.size_setCell, World.size_drew, World.heap_drewN] at hz3); replace z := keepH2 (z) (by repeat (first | exact Below.refl _ _ | (refine Below.alloc ?_ (by ((try simp only [World.size_alloc, World.size_setCell, World.size_drew, World.heap_drewN]); omega)) _) | (refine Below.drewN' ?_ _) | (refine Below.drew ?_) | (refine Below.setCell ?_ (by ((try simp only [World.size_alloc, World.size_setCell, World.size_drew, World.heap_drewN]); omega)) _) | (refine Below.trans ?_ (Below.mono (by assumption) (by ((try simp only [World.size_alloc, World.size_setCell, World.size_drew, World.heap_drewN]); omega)))))) hb3; (try clear z_0); (try clear z_1); (try clear z_0f); (try clear z_1f); (try clear z_l0 z_l1 z_l2 z_l3 z_l4); obtain ⟨z_l0, z_l1, z_l2, z_l3, z_l4⟩ := ltF z; obtain ⟨z_0, z_1, z_0f, z_1f⟩ := cell2 z; have n := keepH2 (World.alloc_heap_new w2 _) (by repeat (first | exact Below.refl _ _ | (refine Below.alloc ?_ (by ((try simp only [World.size_alloc, World.size_setCell, World.size_drew, World.heap_drewN]); omega)) _) | (refine Below.drewN' ?_ _) | (refine Below.drew ?_) | (refine Below.setCell ?_ (by ((try simp only [World.size_alloc, World.size_setCell, World.size_drew, World.heap_drewN]); omega)) _) | (refine Below.trans ?_ (Below.mono (by assumption) (by ((try simp only [World.size_alloc, World.size_setCell, World.size_drew, World.heap_drewN]); omega)))))) hb3; (try simp only [World.size_alloc, World.size_setCell, World.size_drew, World.heap_drewN] at n); obtain ⟨n_l0, n_l1, n_l2, n_l3, n_l4⟩ := ltF n; obtain ⟨n_0, n_0f⟩ := cell1 n
  clear hm3
  gi_wp2_with fail
  (refine ⟨trivial, rfl, ?_⟩); (refine CallsIn.mono (callsIn_wide.2 (tcells_f 20 10 5 _)) ?_); rintro e w4 ⟨rfl, hb4, hm4⟩; have hz4 := hb4.size; (try simp only [World.size_alloc, World.size_setCell, World.size_drew, World.heap_drewN] at hz4); replace z := keepH2 (z) (by repeat (first | exact Below.refl _ _ | (refine Below.alloc ?_ (by ((try simp only [World.size_alloc, World.size_setCell, World.size_drew, World.heap_drewN]); omega)) _) | (refine Below.drewN' ?_ _) | (refine Below.drew ?_) | (refine Below.setCell ?_ (by ((try simp only [World.size_alloc, World.size_setCell, World.size_drew, World.heap_drewN]); omega)) _) | (refine Below.trans ?_ (Below.mono (by assumption) (by ((try simp only [World.size_alloc, World.size_setCell, World.size_drew, World.heap_drewN]); omega)))))) hb4; (try clear z_0); (try clear z_1); (try clear z_0f); (try clear z_1f); (try clear z_l0 z_l1 z_l2 z_l3 z_l4); obtain ⟨z_l0, z_l1, z_l2, z_l3, z_l4⟩ := ltF z; obtain ⟨z_0, z_1, z_0f, z_1f⟩ := cell2 z; replace n := keepH2 (n) (by repeat (first | exact Below.refl _ _ | (refine Below.alloc ?_ (by ((try simp only [World.size_alloc, World.size_setCell, World.size_drew, World.heap_drewN]); omega)) _) | (refine Below.drewN' ?_ _) | (refine Below.drew ?_) | (refine Below.setCell ?_ (by ((try simp only [World.size_alloc, World.size_setCell, World.size_drew, World.heap_drewN]); omega)) _) | (refine Below.trans ?_ (Below.mono (by assumption) (by ((try simp only [World.size_alloc, World.size_setCell, World.size_drew, World.heap_drewN]); omega)))))) hb4; (try clear n_0); (try clear n_1); (try clear n_0f); (try clear n_1f); (try clear n_l0 n_l1 n_l2 n_l3 n_l4); obtain ⟨n_l0, n_l1, n_l2, n_l3, n_l4⟩ := ltF n; obtain ⟨n_0, n_0f⟩ := cell1 n
  obtain ⟨kz, kc⟩ := hm4
  have hkl := (ltF kc).1
  gi_wp2_with fail
  have hbV : Below w.heap.size w w4 := (by repeat (first | exact Below.refl _ _ | (refine Below.alloc ?_ (by ((try simp only [World.size_alloc, World.size_setCell, World.size_drew, World.heap_drewN]); omega)) _) | (refine Below.drewN' ?_ _) | (refine Below.drew ?_) | (refine Below.setCell ?_ (by ((try simp only [World.size_alloc, World.size_setCell, World.size_drew, World.heap_drewN]); omega)) _) | (refine Below.trans ?_ (Below.mono (by assumption) (by ((try simp only [World.size_alloc, World.size_setCell, World.size_drew, World.heap_drewN]); omega))))))
  refine range_fix rfl (enters_of Try.func55 (by kernel_rfl) rfl) (tcells_iter 20 10 5 w4 _ _ kz kc) (fun _ => rfl)
    (fun k => k = w2.heap.size) (fun pre W => Boxed W w2.heap.size 3 (.int .i64 pre.length)) (fun _ _ => False)
    (fun pre W W' h he => Boxed.stab h he rfl) (fun _ _ _ h _ => h) (by omega) (by omega) n (fun _ => []) ?a₁ ?assign ?body ?done ?stop
  case assign =>
    intro l x W n K hn hK
    gi_wp2
    exact hK
  case body =>
    rintro m pre x post U hpre hm hr hnew hszU hMU hn
    obtain ⟨nc, nf⟩ := cell1 hn
    have hpl : pre.length < 8 := by rw [← HL1.out, hpre]; simp
    have Hs := Lib.hid (succ_len pre x)
    clear hpre
    gi_wp2
    exact ⟨(by repeat (first | exact Md.refl _ _ _ | (refine Md.alloc ?_ (by ((try simp only [World.size_alloc, World.size_setCell, World.size_drew, World.heap_drewN]); omega)) _) | (refine Md.drewN ?_ _) | (refine Md.drew ?_) | (refine Md.setCell ?_ (by first | exact .inl rfl | exact .inl (.inl rfl) | exact .inl (.inr (.inl rfl)) | exact .inl (.inr (.inr (.inl rfl))) | exact .inl (.inr (.inr rfl)) | exact .inl (.inr rfl) | exact .inl (.inr (.inr (.inr rfl))) | (right; show _ ≤ _; ((try simp only [World.size_alloc, World.size_setCell, World.size_drew, World.heap_drewN]); omega)) | (left; show _; simp [*]; done)) _) | (refine Md.call ?_ (by assumption) (by ((try simp only [World.size_alloc, World.size_setCell, World.size_drew, World.heap_drewN]); omega))) | (refine Md.trans ?_ (by assumption)))), by rw [Hs.out]; exact (by simp only [Boxed, hp_alloc, hp_drewN, hp_drew, if_true, World.size_alloc, World.size_setCell, World.size_drew, World.heap_drewN]; repeat (first | rw [if_true] | rw [if_pos (by omega)] | rw [if_neg (by omega)] | rw [hp_set_ne _ _ _ _ _ (by omega)] | rw [hp_set_eq (by assumption)]); try first | rfl | assumption | (apply hp_set_eq; (repeat (rw [hp_set_ne _ _ _ _ _ (by omega)])); assumption))⟩
  case stop =>
    rintro U c hMU hlt hK h
    exact h.elim
  case done =>
    rintro U hMU hlt hK hn
    rw [HL1.out] at hn
    have hn : Boxed U w2.heap.size 3 (.int .i64 8) := hn
    have hbU : Below w.heap.size w4 U := (hMU.mono (B' := w.heap.size) (S' := NoB) (by omega) (by intro k hk h; omega)).below
    have hbwU : Below w.heap.size w U := hbV.trans hbU
    clear n_0 n_0f n_l0 n_l1 n_l2 n_l3 n_l4 n
    skip; replace z := keepM (z) hMU (by omega) (by first | exact fun h => h | omega); (try clear z_0); (try clear z_1); (try clear z_0f); (try clear z_1f); (try clear z_l0 z_l1 z_l2 z_l3 z_l4); obtain ⟨z_l0, z_l1, z_l2, z_l3, z_l4⟩ := ltF z; obtain ⟨z_0, z_1, z_0f, z_1f⟩ := cell2 z
    have n := hn
    obtain ⟨n_0, n_0f⟩ := cell1 n
    obtain ⟨n_l0, n_l1, n_l2, n_l3, n_l4⟩ := ltF n
    clear hn hb1 hb2 hb3 hb4 hbV hbU kz kc
    have hUs := hbwU.size
    gi_wp2_with fail
    (refine ⟨trivial, rfl, ?_⟩); (refine CallsIn.mono (callsIn_wide.2 (tbeside_f 20 10 1 _)) ?_); rintro e w5 ⟨rfl, hb5, hm5⟩; have hz5 := hb5.size; (try simp only [World.size_alloc, World.size_setCell, World.size_drew, World.heap_drewN] at hz5); replace z := keepH2 (z) (by repeat (first | exact Below.refl _ _ | (refine Below.alloc ?_ (by ((try simp only [World.size_alloc, World.size_setCell, World.size_drew, World.heap_drewN]); omega)) _) | (refine Below.drewN' ?_ _) | (refine Below.drew ?_) | (refine Below.setCell ?_ (by ((try simp only [World.size_alloc, World.size_setCell, World.size_drew, World.heap_drewN]); omega)) _) | (refine Below.trans ?_ (Below.mono (by assumption) (by ((try simp only [World.size_alloc, World.size_setCell, World.size_drew, World.heap_drewN]); omega)))))) hb5; (try clear z_0); (try clear z_1); (try clear z_0f); (try clear z_1f); (try clear z_l0 z_l1 z_l2 z_l3 z_l4); obtain ⟨z_l0, z_l1, z_l2, z_l3, z_l4⟩ := ltF z; obtain ⟨z_0, z_1, z_0f, z_1f⟩ := cell2 z; replace n := keepH2 (n) (by repeat (first | exact Below.refl _ _ | (refine Below.alloc ?_ (by ((try simp only [World.size_alloc, World.size_setCell, World.size_drew, World.heap_drewN]); omega)) _) | (refine Below.drewN' ?_ _) | (refine Below.drew ?_) | (refine Below.setCell ?_ (by ((try simp only [World.size_alloc, World.size_setCell, World.size_drew, World.heap_drewN]); omega)) _) | (refine Below.trans ?_ (Below.mono (by assumption) (by ((try simp only [World.size_alloc, World.size_setCell, World.size_drew, World.heap_drewN]); omega)))))) hb5; (try clear n_0); (try clear n_1); (try clear n_0f); (try clear n_1f); (try clear n_l0 n_l1 n_l2 n_l3 n_l4); obtain ⟨n_l0, n_l1, n_l2, n_l3, n_l4⟩ := ltF n; obtain ⟨n_0, n_0f⟩ := cell1 n; have m := keepH2 (World.alloc_heap_new U _) (by repeat (first | exact Below.refl _ _ | (refine Below.alloc ?_ (by ((try simp only [World.size_alloc, World.size_setCell, World.size_drew, World.heap_drewN]); omega)) _) | (refine Below.drewN' ?_ _) | (refine Below.drew ?_) | (refine Below.setCell ?_ (by ((try simp only [World.size_alloc, World.size_setCell, World.size_drew, World.heap_drewN]); omega)) _) | (refine Below.trans ?_ (Below.mono (by assumption) (by ((try simp only [World.size_alloc, World.size_setCell, World.size_drew, World.heap_drewN]); omega)))))) hb5; (try simp only [World.size_alloc, World.size_setCell, World.size_drew, World.heap_drewN] at m); obtain ⟨m_l0, m_l1, m_l2, m_l3, m_l4⟩ := ltF m; obtain ⟨m_0, m_0f⟩ := cell1 m
    clear hm5
    gi_wp2_with fail
    (refine ⟨trivial, rfl, ?_⟩); (refine CallsIn.mono (callsIn_wide.2 (tbeside_f 20 10 1 _)) ?_); rintro e w6 ⟨rfl, hb6, hm6⟩; have hz6 := hb6.size; (try simp only [World.size_alloc, World.size_setCell, World.size_drew, World.heap_drewN] at hz6); replace z := keepH2 (z) (by repeat (first | exact Below.refl _ _ | (refine Below.alloc ?_ (by ((try simp only [World.size_alloc, World.size_setCell, World.size_drew, World.heap_drewN]); omega)) _) | (refine Below.drewN' ?_ _) | (refine Below.drew ?_) | (refine Below.setCell ?_ (by ((try simp only [World.size_alloc, World.size_setCell, World.size_drew, World.heap_drewN]); omega)) _) | (refine Below.trans ?_ (Below.mono (by assumption) (by ((try simp only [World.size_alloc, World.size_setCell, World.size_drew, World.heap_drewN]); omega)))))) hb6; (try clear z_0); (try clear z_1); (try clear z_0f); (try clear z_1f); (try clear z_l0 z_l1 z_l2 z_l3 z_l4); obtain ⟨z_l0, z_l1, z_l2, z_l3, z_l4⟩ := ltF z; obtain ⟨z_0, z_1, z_0f, z_1f⟩ := cell2 z; replace n := keepH2 (n) (by repeat (first | exact Below.refl _ _ | (refine Below.alloc ?_ (by ((try simp only [World.size_alloc, World.size_setCell, World.size_drew, World.heap_drewN]); omega)) _) | (refine Below.drewN' ?_ _) | (refine Below.drew ?_) | (refine Below.setCell ?_ (by ((try simp only [World.size_alloc, World.size_setCell, World.size_drew, World.heap_drewN]); omega)) _) | (refine Below.trans ?_ (Below.mono (by assumption) (by ((try simp only [World.size_alloc, World.size_setCell, World.size_drew, World.heap_drewN]); omega)))))) hb6; (try clear n_0); (try clear n_1); (try clear n_0f); (try clear n_1f); (try clear n_l0 n_l1 n_l2 n_l3 n_l4); obtain ⟨n_l0, n_l1, n_l2, n_l3, n_l4⟩ := ltF n; obtain ⟨n_0, n_0f⟩ := cell1 n; replace m := keepH2 (m) (by repeat (first | exact Below.refl _ _ | (refine Below.alloc ?_ (by ((try simp only [World.size_alloc, World.size_setCell, World.size_drew, World.heap_drewN]); omega)) _) | (refine Below.drewN' ?_ _) | (refine Below.drew ?_) | (refine Below.setCell ?_ (by ((try simp only [World.size_alloc, World.size_setCell, World.size_drew, World.heap_drewN]); omega)) _) | (refine Below.trans ?_ (Below.mono (by assumption) (by ((try simp only [World.size_alloc, World.size_setCell, World.size_drew, World.heap_drewN]); omega)))))) hb6; (try clear m_0); (try clear m_1); (try clear m_0f); (try clear m_1f); (try clear m_l0 m_l1 m_l2 m_l3 m_l4); obtain ⟨m_l0, m_l1, m_l2, m_l3, m_l4⟩ := ltF m; obtain ⟨m_0, m_0f⟩ := cell1 m
    obtain ⟨kz, kc⟩ := hm6
    have hkl := (ltF kc).1
    gi_wp2_with fail
    have hK6 : w6.heap[w4.heap.size]? = some (.deferred (some [])) := keepH1 hK (by repeat (first | exact Below.refl _ _ | (refine Below.alloc ?_ (by ((try simp only [World.size_alloc, World.size_setCell, World.size_drew, World.heap_drewN]); omega)) _) | (refine Below.drewN' ?_ _) | (refine Below.drew ?_) | (refine Below.setCell ?_ (by ((try simp only [World.size_alloc, World.size_setCell, World.size_drew, World.heap_drewN]); omega)) _) | (refine Below.trans ?_ (Below.mono (by assumption) (by ((try simp only [World.size_alloc, World.size_setCell, World.size_drew, World.heap_drewN]); omega))))))
    have hb6 : Below w.heap.size w w6 := (by repeat (first | exact Below.refl _ _ | (refine Below.alloc ?_ (by ((try simp only [World.size_alloc, World.size_setCell, World.size_drew, World.heap_drewN]); omega)) _) | (refine Below.drewN' ?_ _) | (refine Below.drew ?_) | (refine Below.setCell ?_ (by ((try simp only [World.size_alloc, World.size_setCell, World.size_drew, World.heap_drewN]); omega)) _) | (refine Below.trans ?_ (Below.mono (by assumption) (by ((try simp only [World.size_alloc, World.size_setCell, World.size_drew, World.heap_drewN]); omega))))))
    refine range_fix rfl (enters_of Try.func57 (by kernel_rfl) rfl) (tbeside_iter 20 10 1 w6 _ _ kz kc) (fun _ => rfl)
      (fun k => k = U.heap.size) (fun pre W => Boxed W U.heap.size 3 (.int .i64 (digs 10 pre))) (fun _ _ => False)
      (fun pre W W' h he => Boxed.stab h he rfl) (fun _ _ _ h _ => h) (by omega) (by omega) m (fun _ => []) ?a₂ ?assign2 ?body2 ?done2 ?stop2
    case assign2 =>
      intro l x W n K hn hK
      gi_wp2
      exact hK
    case body2 =>
      rintro mm pre x post U2 hpre hm hr hnew hszU hMU2 hm'
      obtain ⟨nc, nf⟩ := cell1 hm'
      have hb : 0 ≤ digs 10 pre ∧ digs 10 pre ≤ 1000 ∧ 0 ≤ x ∧ x ≤ 9 := by
        rw [HL2.out] at hpre
        obtain ⟨h1, h2, h3⟩ := pre_cases hpre
        generalize pre.length = k at *
        subst h2
        rcases k with _ | _ | _ | k <;> simp [digs] at h1 h3 ⊢ <;> omega
      obtain ⟨q1, q2, q3, q4⟩ := hb
      gi_wp2
      exact ⟨(by repeat (first | exact Md.refl _ _ _ | (refine Md.alloc ?_ (by ((try simp only [World.size_alloc, World.size_setCell, World.size_drew, World.heap_drewN]); omega)) _) | (refine Md.drewN ?_ _) | (refine Md.drew ?_) | (refine Md.setCell ?_ (by first | exact .inl rfl | exact .inl (.inl rfl) | exact .inl (.inr (.inl rfl)) | exact .inl (.inr (.inr (.inl rfl))) | exact .inl (.inr (.inr rfl)) | exact .inl (.inr rfl) | exact .inl (.inr (.inr (.inr rfl))) | (right; show _ ≤ _; ((try simp only [World.size_alloc, World.size_setCell, World.size_drew, World.heap_drewN]); omega)) | (left; show _; simp [*]; done)) _) | (refine Md.call ?_ (by assumption) (by ((try simp only [World.size_alloc, World.size_setCell, World.size_drew, World.heap_drewN]); omega))) | (refine Md.trans ?_ (by assumption)))), by rw [digs_snoc]; exact (by simp only [Boxed, hp_alloc, hp_drewN, hp_drew, if_true, World.size_alloc, World.size_setCell, World.size_drew, World.heap_drewN]; repeat (first | rw [if_true] | rw [if_pos (by omega)] | rw [if_neg (by omega)] | rw [hp_set_ne _ _ _ _ _ (by omega)] | rw [hp_set_eq (by assumption)]); try first | rfl | assumption | (apply hp_set_eq; (repeat (rw [hp_set_ne _ _ _ _ _ (by omega)])); assumption))⟩
    case stop2 =>
      rintro U2 c hMU2 hlt2 hK2 h
      exact h.elim
    case done2 =>
      rintro U2 hMU2 hlt2 hK2 hm'
      rw [HL2.out] at hm'
      have hm'' : Boxed U2 U.heap.size 3 (.int .i64 24) := hm'
      skip; replace z := keepM (z) hMU2 (by omega) (by first | exact fun h => h | omega); (try clear z_0); (try clear z_1); (try clear z_0f); (try clear z_1f); (try clear z_l0 z_l1 z_l2 z_l3 z_l4); obtain ⟨z_l0, z_l1, z_l2, z_l3, z_l4⟩ := ltF z; obtain ⟨z_0, z_1, z_0f, z_1f⟩ := cell2 z; replace n := keepM (n) hMU2 (by omega) (by first | exact fun h => h | omega); (try clear n_0); (try clear n_1); (try clear n_0f); (try clear n_1f); (try clear n_l0 n_l1 n_l2 n_l3 n_l4); obtain ⟨n_l0, n_l1, n_l2, n_l3, n_l4⟩ := ltF n; obtain ⟨n_0, n_0f⟩ := cell1 n
      have hb2 : Below w.heap.size w6 U2 := (hMU2.mono (B' := w.heap.size) (S' := NoB) (by omega) (by intro k hk h; omega)).below
      have hbw2 : Below w.heap.size w U2 := hb6.trans hb2
      have hK2' : U2.heap[w4.heap.size]? = some (.deferred (some [])) := keepM hK6 hMU2 (by omega) (by omega)
      clear hb2 hb5 hb6 hm'
      obtain ⟨m_0, m_0f⟩ := cell1 hm''
      gi_wp2_with fail
      (refine ⟨trivial, rfl, ?_⟩); (refine CallsIn.mono (callsIn_wide.2 (tcount_any 20 10 _)) ?_); rintro e w7 ⟨rfl, hb7⟩; have hz7 := hb7.size; (try simp only [World.size_alloc, World.size_setCell, World.size_drew, World.heap_drewN] at hz7); replace z := keepH2 (z) (by repeat (first | exact Below.refl _ _ | (refine Below.alloc ?_ (by ((try simp only [World.size_alloc, World.size_setCell, World.size_drew, World.heap_drewN]); omega)) _) | (refine Below.drewN' ?_ _) | (refine Below.drew ?_) | (refine Below.setCell ?_ (by ((try simp only [World.size_alloc, World.size_setCell, World.size_drew, World.heap_drewN]); omega)) _) | (refine Below.trans ?_ (Below.mono (by assumption) (by ((try simp only [World.size_alloc, World.size_setCell, World.size_drew, World.heap_drewN]); omega)))))) hb7; (try clear z_0); (try clear z_1); (try clear z_0f); (try clear z_1f); (try clear z_l0 z_l1 z_l2 z_l3 z_l4); obtain ⟨z_l0, z_l1, z_l2, z_l3, z_l4⟩ := ltF z; obtain ⟨z_0, z_1, z_0f, z_1f⟩ := cell2 z; replace n := keepH2 (n) (by repeat (first | exact Below.refl _ _ | (refine Below.alloc ?_ (by ((try simp only [World.size_alloc, World.size_setCell, World.size_drew, World.heap_drewN]); omega)) _) | (refine Below.drewN' ?_ _) | (refine Below.drew ?_) | (refine Below.setCell ?_ (by ((try simp only [World.size_alloc, World.size_setCell, World.size_drew, World.heap_drewN]); omega)) _) | (refine Below.trans ?_ (Below.mono (by assumption) (by ((try simp only [World.size_alloc, World.size_setCell, World.size_drew, World.heap_drewN]); omega)))))) hb7; (try clear n_0); (try clear n_1); (try clear n_0f); (try clear n_1f); (try clear n_l0 n_l1 n_l2 n_l3 n_l4); obtain ⟨n_l0, n_l1, n_l2, n_l3, n_l4⟩ := ltF n; obtain ⟨n_0, n_0f⟩ := cell1 n; have m := keepH2 (hm'') (by repeat (first | exact Below.refl _ _ | (refine Below.alloc ?_ (by ((try simp only [World.size_alloc, World.size_setCell, World.size_drew, World.heap_drewN]); omega)) _) | (refine Below.drewN' ?_ _) | (refine Below.drew ?_) | (refine Below.setCell ?_ (by ((try simp only [World.size_alloc, World.size_setCell, World.size_drew, World.heap_drewN]); omega)) _) | (refine Below.trans ?_ (Below.mono (by assumption) (by ((try simp only [World.size_alloc, World.size_setCell, World.size_drew, World.heap_drewN]); omega)))))) hb7; (try simp only [World.size_alloc, World.size_setCell, World.size_drew, World.heap_drewN] at m); obtain ⟨m_l0, m_l1, m_l2, m_l3, m_l4⟩ := ltF m; obtain ⟨m_0, m_0f⟩ := cell1 m
      rw [e8]
      gi_wp2_with fail
      (refine ⟨trivial, rfl, ?_⟩); (refine CallsIn.mono (callsIn_wide.2 (taway_any 20 10 0 4 _)) ?_); rintro e w8 ⟨rfl, hb8⟩; have hz8 := hb8.size; (try simp only [World.size_alloc, World.size_setCell, World.size_drew, World.heap_drewN] at hz8); replace z := keepH2 (z) (by repeat (first | exact Below.refl _ _ | (refine Below.alloc ?_ (by ((try simp only [World.size_alloc, World.size_setCell, World.size_drew, World.heap_drewN]); omega)) _) | (refine Below.drewN' ?_ _) | (refine Below.drew ?_) | (refine Below.setCell ?_ (by ((try simp only [World.size_alloc, World.size_setCell, World.size_drew, World.heap_drewN]); omega)) _) | (refine Below.trans ?_ (Below.mono (by assumption) (by ((try simp only [World.size_alloc, World.size_setCell, World.size_drew, World.heap_drewN]); omega)))))) hb8; (try clear z_0); (try clear z_1); (try clear z_0f); (try clear z_1f); (try clear z_l0 z_l1 z_l2 z_l3 z_l4); obtain ⟨z_l0, z_l1, z_l2, z_l3, z_l4⟩ := ltF z; obtain ⟨z_0, z_1, z_0f, z_1f⟩ := cell2 z; replace n := keepH2 (n) (by repeat (first | exact Below.refl _ _ | (refine Below.alloc ?_ (by ((try simp only [World.size_alloc, World.size_setCell, World.size_drew, World.heap_drewN]); omega)) _) | (refine Below.drewN' ?_ _) | (refine Below.drew ?_) | (refine Below.setCell ?_ (by ((try simp only [World.size_alloc, World.size_setCell, World.size_drew, World.heap_drewN]); omega)) _) | (refine Below.trans ?_ (Below.mono (by assumption) (by ((try simp only [World.size_alloc, World.size_setCell, World.size_drew, World.heap_drewN]); omega)))))) hb8; (try clear n_0); (try clear n_1); (try clear n_0f); (try clear n_1f); (try clear n_l0 n_l1 n_l2 n_l3 n_l4); obtain ⟨n_l0, n_l1, n_l2, n_l3, n_l4⟩ := ltF n; obtain ⟨n_0, n_0f⟩ := cell1 n; replace m := keepH2 (m) (by repeat (first | exact Below.refl _ _ | (refine Below.alloc ?_ (by ((try simp only [World.size_alloc, World.size_setCell, World.size_drew, World.heap_drewN]); omega)) _) | (refine Below.drewN' ?_ _) | (refine Below.drew ?_) | (refine Below.setCell ?_ (by ((try simp only [World.size_alloc, World.size_setCell, World.size_drew, World.heap_drewN]); omega)) _) | (refine Below.trans ?_ (Below.mono (by assumption) (by ((try simp only [World.size_alloc, World.size_setCell, World.size_drew, World.heap_drewN]); omega)))))) hb8; (try clear m_0); (try clear m_1); (try clear m_0f); (try clear m_1f); (try clear m_l0 m_l1 m_l2 m_l3 m_l4); obtain ⟨m_l0, m_l1, m_l2, m_l3, m_l4⟩ := ltF m; obtain ⟨m_0, m_0f⟩ := cell1 m
      rw [e9]
      gi_wp2_with fail
      refine end_tmp [w6.heap.size, w4.heap.size] (w.heap.size + 1) rfl rfl ?_ (by simp; omega) ?_
      · intro D hD
        simp only [List.mem_cons, List.not_mem_nil, or_false] at hD
        rcases hD with rfl | rfl
        · exact ⟨by omega, keepH1 hK2 (by repeat (first | exact Below.refl _ _ | (refine Below.alloc ?_ (by ((try simp only [World.size_alloc, World.size_setCell, World.size_drew, World.heap_drewN]); omega)) _) | (refine Below.drewN' ?_ _) | (refine Below.drew ?_) | (refine Below.setCell ?_ (by ((try simp only [World.size_alloc, World.size_setCell, World.size_drew, World.heap_drewN]); omega)) _) | (refine Below.trans ?_ (Below.mono (by assumption) (by ((try simp only [World.size_alloc, World.size_setCell, World.size_drew, World.heap_drewN]); omega))))))⟩
        · exact ⟨by omega, keepH1 hK2' (by repeat (first | exact Below.refl _ _ | (refine Below.alloc ?_ (by ((try simp only [World.size_alloc, World.size_setCell, World.size_drew, World.heap_drewN]); omega)) _) | (refine Below.drewN' ?_ _) | (refine Below.drew ?_) | (refine Below.setCell ?_ (by ((try simp only [World.size_alloc, World.size_setCell, World.size_drew, World.heap_drewN]); omega)) _) | (refine Below.trans ?_ (Below.mono (by assumption) (by ((try simp only [World.size_alloc, World.size_setCell, World.size_drew, World.heap_drewN]); omega))))))⟩
      · intro W' hb _
        exact ⟨rfl, (by repeat (first | exact Below.refl _ _ | (refine Below.alloc ?_ (by ((try simp only [World.size_alloc, World.size_setCell, World.size_drew, World.heap_drewN]); omega)) _) | (refine Below.drewN' ?_ _) | (refine Below.drew ?_) | (refine Below.setCell ?_ (by ((try simp only [World.size_alloc, World.size_setCell, World.size_drew, World.heap_drewN]); omega)) _) | (refine Below.trans ?_ (Below.mono (by assumption) (by ((try simp only [World.size_alloc, World.size_setCell, World.size_drew, World.heap_drewN]); omega))))))⟩
end Go.Proofs.Ytekpjmdkihnpeaa
