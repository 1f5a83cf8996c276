/- Texts put together: C81, C14, C69, C70, C71, C72, C82, C83, C20, C21, C24, C25, C29, C15, C16, C77. -/
import Derived.Test.YtlfpiegadaiafaaK5
section
/- Draws of sets of fractions and of lists of moves. -/
namespace Go.Proofs.Ytlfpiegadaiafaa.Sep
open Go.RowKit
set_option linter.unusedVariables false
set_option linter.unusedSimpArgs false
set_option maxRecDepth 20000
set_option maxHeartbeats 4000000

theorem c_spec_l10DrawMoves {x : Value} {l : List Int} {a z : Int} (hs : okS l a) : PSpecM Try.prog 72 [.ptr 0 0] [(0, 97, 1)] [srcC x l a z] fun v c =>
    ∃ s a' z', v = .own 36 3 s.length (v3 .i64 s) ∧ c = [srcC x l a' z'] ∧ okS l a' ∧ s.length ≤ 100 := by
  refine spec_l10DrawMoves_f.m rfl rfl ?_
  unfold srcC
  dsimp only [spec_l10DrawMoves_F, pcal_B, pcalp_B, pcond_B, pgk_B, JN_B, LP_B]
  ((try simp (disch := first | omega | (simp only [LN]; omega)) only [↓EC, EW, seval, ↓reduceIte, false_imp_iff, ↓EBD, bne_self_eq_false, beq_self_eq_true, Bool.and_self, Bool.not_true, Bool.not_false]); repeat (refine blkP.mk ?_; (try simp (disch := first | omega | (simp only [LN]; omega)) only [↓EC, EW, seval, ↓reduceIte, false_imp_iff, ↓EBD, bne_self_eq_false, beq_self_eq_true, Bool.and_self, Bool.not_true, Bool.not_false])))
  (refine pcm [0] rfl ?_; ((try simp (disch := first | omega | (simp only [LN]; omega)) only [↓EC, EW, seval, ↓reduceIte, false_imp_iff, ↓EBD, bne_self_eq_false, beq_self_eq_true, Bool.and_self, Bool.not_true, Bool.not_false]); repeat (refine blkP.mk ?_; (try simp (disch := first | omega | (simp only [LN]; omega)) only [↓EC, EW, seval, ↓reduceIte, false_imp_iff, ↓EBD, bne_self_eq_false, beq_self_eq_true, Bool.and_self, Bool.not_true, Bool.not_false]))); refine callM_d (c_spec_l01Next (by assumption) (by omega)) ?_; rintro _ _ ⟨r1, _, _, rfl, rfl, hs_, hr_⟩; ((try simp (disch := first | omega | (simp only [LN]; omega)) only [↓EC, EW, seval, ↓reduceIte, false_imp_iff, ↓EBD, bne_self_eq_false, beq_self_eq_true, Bool.and_self, Bool.not_true, Bool.not_false, srcC]); repeat (refine blkP.mk ?_; (try simp (disch := first | omega | (simp only [LN]; omega)) only [↓EC, EW, seval, ↓reduceIte, false_imp_iff, ↓EBD, bne_self_eq_false, beq_self_eq_true, Bool.and_self, Bool.not_true, Bool.not_false, srcC]))))
  rename_i a1 z1
  refine LPx_ofE (σ := List (Int × Int × Int) × Int × Int × Int) [3, 1] 100000 [(0, 97, 1)] (fun s => [.own 36 3 s.1.length (v3 .i64 s.1), .int .i64 s.2.1]) (fun s => [srcC x l s.2.2.1 s.2.2.2])
    (fun s => okS l s.2.2.1 ∧ s.1.length + s.2.1 ≤ 5 ∧ 0 ≤ s.2.1) (fun s => s.2.1.toNat) ([], r1, a1, z1) (by simp [frameOk, names, lpz, sclp, scv, scvs, vi_nrf, vb_nrf, vt_nrf, v2_nrf, v3_nrf, nrfs, nrf, sc_vi, sc_vb, sc_vt, sc_v2, sc_v3, sc_vo, sc_vl, vo_nrf, vl_nrf, sc_vn, vn_nrf]) ⟨by assumption, by simp only [List.length_nil]; omega, by simp only; omega⟩ ?_ ?_
  · (simp (disch := first | omega | (simp only [LN]; omega)) only [↓EC, EW, seval, ↓reduceIte, false_imp_iff, ↓EBD, bne_self_eq_false, beq_self_eq_true, Bool.and_self, Bool.not_true, Bool.not_false, ColV_def, srcC]; repeat (refine blkP.mk ?_; simp (disch := first | omega | (simp only [LN]; omega)) only [↓EC, EW, seval, ↓reduceIte, false_imp_iff, ↓EBD, bne_self_eq_false, beq_self_eq_true, Bool.and_self, Bool.not_true, Bool.not_false, ColV_def, srcC]))
    exact ⟨fun _ => trivial, trivial⟩
  · rintro ⟨s, k, a, z⟩ ⟨h1, h2, h3⟩
    simp only at h1 h2 h3
    (simp (disch := first | omega | (simp only [LN]; omega)) only [↓EC, EW, seval, ↓reduceIte, false_imp_iff, ↓EBD, bne_self_eq_false, beq_self_eq_true, Bool.and_self, Bool.not_true, Bool.not_false, ColV_def, lheap_def, srcC]; repeat (refine blkP.mk ?_; simp (disch := first | omega | (simp only [LN]; omega)) only [↓EC, EW, seval, ↓reduceIte, false_imp_iff, ↓EBD, bne_self_eq_false, beq_self_eq_true, Bool.and_self, Bool.not_true, Bool.not_false, ColV_def, lheap_def, srcC]))
    (refine Split.mkB (fun h => ?_) (fun h => ?_) <;> (try simp only [decide_eq_true_eq, decide_eq_false_iff_not, beq_iff_eq, bne_iff_ne, beq_eq_false_iff_ne, bne_eq_false_iff_eq, Bool.not_eq_true', Bool.not_eq_false', Bool.and_eq_true, Bool.or_eq_true, Bool.and_eq_false_iff, Bool.or_eq_false_iff, Int.not_lt, Int.not_le, Bool.false_eq_true, Bool.true_eq_false, false_and, and_false, true_and, and_true, or_false, false_or, or_true, true_or, not_true_eq_false, not_false_eq_true] at h))
    · ((try simp (disch := first | omega | (simp only [LN]; omega)) only [↓EC, EW, seval, ↓reduceIte, false_imp_iff, ↓EBD, bne_self_eq_false, beq_self_eq_true, Bool.and_self, Bool.not_true, Bool.not_false]); repeat (refine blkP.mk ?_; (try simp (disch := first | omega | (simp only [LN]; omega)) only [↓EC, EW, seval, ↓reduceIte, false_imp_iff, ↓EBD, bne_self_eq_false, beq_self_eq_true, Bool.and_self, Bool.not_true, Bool.not_false])))
      (refine pcm [0] rfl ?_; ((try simp (disch := first | omega | (simp only [LN]; omega)) only [↓EC, EW, seval, ↓reduceIte, false_imp_iff, ↓EBD, bne_self_eq_false, beq_self_eq_true, Bool.and_self, Bool.not_true, Bool.not_false]); repeat (refine blkP.mk ?_; (try simp (disch := first | omega | (simp only [LN]; omega)) only [↓EC, EW, seval, ↓reduceIte, false_imp_iff, ↓EBD, bne_self_eq_false, beq_self_eq_true, Bool.and_self, Bool.not_true, Bool.not_false]))); refine callM_d (c_spec_l10DrawMove (by assumption)) ?_; rintro _ _ ⟨mk, mf, mn, a2, z2, rfl, rfl, hs_⟩; ((try simp (disch := first | omega | (simp only [LN]; omega)) only [↓EC, EW, seval, ↓reduceIte, false_imp_iff, ↓EBD, bne_self_eq_false, beq_self_eq_true, Bool.and_self, Bool.not_true, Bool.not_false, srcC]); repeat (refine blkP.mk ?_; (try simp (disch := first | omega | (simp only [LN]; omega)) only [↓EC, EW, seval, ↓reduceIte, false_imp_iff, ↓EBD, bne_self_eq_false, beq_self_eq_true, Bool.and_self, Bool.not_true, Bool.not_false, srcC]))))
      have tk : (v3 .i64 (s ++ [(mk, mf, mn)])).take ((s.length + 1) * 3) = v3 .i64 (s ++ [(mk, mf, mn)]) := v3_tk (by simp)
      ((try simp (disch := first | omega | (simp only [LN]; omega)) only [↓EC, EW, seval, ↓reduceIte, false_imp_iff, ↓EBD, bne_self_eq_false, beq_self_eq_true, Bool.and_self, Bool.not_true, Bool.not_false, tk]); repeat (refine blkP.mk ?_; (try simp (disch := first | omega | (simp only [LN]; omega)) only [↓EC, EW, seval, ↓reduceIte, false_imp_iff, ↓EBD, bne_self_eq_false, beq_self_eq_true, Bool.and_self, Bool.not_true, Bool.not_false, tk])))
      exact ⟨(s ++ [(mk, mf, mn)], k - 1, a2, z2), by simp, rfl, ⟨hs_, by simp only [List.length_append, List.length_cons, List.length_nil]; omega, by simp only; omega⟩, by simp only; omega⟩
    · ((try simp (disch := first | omega | (simp only [LN]; omega)) only [↓EC, EW, seval, ↓reduceIte, false_imp_iff, ↓EBD, bne_self_eq_false, beq_self_eq_true, Bool.and_self, Bool.not_true, Bool.not_false]); repeat (refine blkP.mk ?_; (try simp (disch := first | omega | (simp only [LN]; omega)) only [↓EC, EW, seval, ↓reduceIte, false_imp_iff, ↓EBD, bne_self_eq_false, beq_self_eq_true, Bool.and_self, Bool.not_true, Bool.not_false])))
      refine JNx_un ?_
      ((try simp (disch := first | omega | (simp only [LN]; omega)) only [↓EC, EW, seval, ↓reduceIte, false_imp_iff, ↓EBD, bne_self_eq_false, beq_self_eq_true, Bool.and_self, Bool.not_true, Bool.not_false]); repeat (refine blkP.mk ?_; (try simp (disch := first | omega | (simp only [LN]; omega)) only [↓EC, EW, seval, ↓reduceIte, false_imp_iff, ↓EBD, bne_self_eq_false, beq_self_eq_true, Bool.and_self, Bool.not_true, Bool.not_false])))
      (refine pcm [0] rfl ?_; ((try simp (disch := first | omega | (simp only [LN]; omega)) only [↓EC, EW, seval, ↓reduceIte, false_imp_iff, ↓EBD, bne_self_eq_false, beq_self_eq_true, Bool.and_self, Bool.not_true, Bool.not_false]); repeat (refine blkP.mk ?_; (try simp (disch := first | omega | (simp only [LN]; omega)) only [↓EC, EW, seval, ↓reduceIte, false_imp_iff, ↓EBD, bne_self_eq_false, beq_self_eq_true, Bool.and_self, Bool.not_true, Bool.not_false]))); refine callM_d (c_spec_l01Next (by assumption) (by omega)) ?_; rintro _ _ ⟨r2, _, _, rfl, rfl, hs_, hr_⟩; ((try simp (disch := first | omega | (simp only [LN]; omega)) only [↓EC, EW, seval, ↓reduceIte, false_imp_iff, ↓EBD, bne_self_eq_false, beq_self_eq_true, Bool.and_self, Bool.not_true, Bool.not_false, srcC]); repeat (refine blkP.mk ?_; (try simp (disch := first | omega | (simp only [LN]; omega)) only [↓EC, EW, seval, ↓reduceIte, false_imp_iff, ↓EBD, bne_self_eq_false, beq_self_eq_true, Bool.and_self, Bool.not_true, Bool.not_false, srcC]))))
      rename_i a2 z2
      (refine Split.mkB (fun h => ?_) (fun h => ?_) <;> (try simp only [decide_eq_true_eq, decide_eq_false_iff_not, beq_iff_eq, bne_iff_ne, beq_eq_false_iff_ne, bne_eq_false_iff_eq, Bool.not_eq_true', Bool.not_eq_false', Bool.and_eq_true, Bool.or_eq_true, Bool.and_eq_false_iff, Bool.or_eq_false_iff, Int.not_lt, Int.not_le, Bool.false_eq_true, Bool.true_eq_false, false_and, and_false, true_and, and_true, or_false, false_or, or_true, true_or, not_true_eq_false, not_false_eq_true] at h))
      · ((try simp (disch := first | omega | (simp only [LN]; omega)) only [↓EC, EW, seval, ↓reduceIte, false_imp_iff, ↓EBD, bne_self_eq_false, beq_self_eq_true, Bool.and_self, Bool.not_true, Bool.not_false]); repeat (refine blkP.mk ?_; (try simp (disch := first | omega | (simp only [LN]; omega)) only [↓EC, EW, seval, ↓reduceIte, false_imp_iff, ↓EBD, bne_self_eq_false, beq_self_eq_true, Bool.and_self, Bool.not_true, Bool.not_false])))
        refine LPx_ofE (σ := List (Int × Int × Int)) [3] 200000 [(0, 97, 1)] (fun s => [.own 36 3 s.length (v3 .i64 s)]) (fun _ => [srcC x l a2 z2])
          (fun s => s.length ≤ 21) (fun s => 22 - s.length) s (by simp [frameOk, names, lpz, sclp, scv, scvs, vi_nrf, vb_nrf, vt_nrf, v2_nrf, v3_nrf, nrfs, nrf, sc_vi, sc_vb, sc_vt, sc_v2, sc_v3, sc_vo, sc_vl, vo_nrf, vl_nrf, sc_vn, vn_nrf]) (by omega) ?_ ?_
        · (simp (disch := first | omega | (simp only [LN]; omega)) only [↓EC, EW, seval, ↓reduceIte, false_imp_iff, ↓EBD, bne_self_eq_false, beq_self_eq_true, Bool.and_self, Bool.not_true, Bool.not_false, ColV_def, srcC]; repeat (refine blkP.mk ?_; simp (disch := first | omega | (simp only [LN]; omega)) only [↓EC, EW, seval, ↓reduceIte, false_imp_iff, ↓EBD, bne_self_eq_false, beq_self_eq_true, Bool.and_self, Bool.not_true, Bool.not_false, ColV_def, srcC]))
        · intro s h4
          (simp (disch := first | omega | (simp only [LN]; omega)) only [↓EC, EW, seval, ↓reduceIte, false_imp_iff, ↓EBD, bne_self_eq_false, beq_self_eq_true, Bool.and_self, Bool.not_true, Bool.not_false, ColV_def, lheap_def, srcC]; repeat (refine blkP.mk ?_; simp (disch := first | omega | (simp only [LN]; omega)) only [↓EC, EW, seval, ↓reduceIte, false_imp_iff, ↓EBD, bne_self_eq_false, beq_self_eq_true, Bool.and_self, Bool.not_true, Bool.not_false, ColV_def, lheap_def, srcC]))
          (refine Split.mkB (fun h => ?_) (fun h => ?_) <;> (try simp only [decide_eq_true_eq, decide_eq_false_iff_not, beq_iff_eq, bne_iff_ne, beq_eq_false_iff_ne, bne_eq_false_iff_eq, Bool.not_eq_true', Bool.not_eq_false', Bool.and_eq_true, Bool.or_eq_true, Bool.and_eq_false_iff, Bool.or_eq_false_iff, Int.not_lt, Int.not_le, Bool.false_eq_true, Bool.true_eq_false, false_and, and_false, true_and, and_true, or_false, false_or, or_true, true_or, not_true_eq_false, not_false_eq_true] at h))
          · ((try simp (disch := first | omega | (simp only [LN]; omega)) only [↓EC, EW, seval, ↓reduceIte, false_imp_iff, ↓EBD, bne_self_eq_false, beq_self_eq_true, Bool.and_self, Bool.not_true, Bool.not_false]); repeat (refine blkP.mk ?_; (try simp (disch := first | omega | (simp only [LN]; omega)) only [↓EC, EW, seval, ↓reduceIte, false_imp_iff, ↓EBD, bne_self_eq_false, beq_self_eq_true, Bool.and_self, Bool.not_true, Bool.not_false])))
            have tk : (v3 .i64 (s ++ [(0, 0, 0)])).take ((s.length + 1) * 3) = v3 .i64 (s ++ [(0, 0, 0)]) := v3_tk (by simp)
            ((try simp (disch := first | omega | (simp only [LN]; omega)) only [↓EC, EW, seval, ↓reduceIte, false_imp_iff, ↓EBD, bne_self_eq_false, beq_self_eq_true, Bool.and_self, Bool.not_true, Bool.not_false, tk]); repeat (refine blkP.mk ?_; (try simp (disch := first | omega | (simp only [LN]; omega)) only [↓EC, EW, seval, ↓reduceIte, false_imp_iff, ↓EBD, bne_self_eq_false, beq_self_eq_true, Bool.and_self, Bool.not_true, Bool.not_false, tk])))
            exact ⟨s ++ [(0, 0, 0)], by simp, by simp only [List.length_append, List.length_cons, List.length_nil]; omega, by simp only [List.length_append, List.length_cons, List.length_nil]; omega⟩
          · ((try simp (disch := first | omega | (simp only [LN]; omega)) only [↓EC, EW, seval, ↓reduceIte, false_imp_iff, ↓EBD, bne_self_eq_false, beq_self_eq_true, Bool.and_self, Bool.not_true, Bool.not_false]); repeat (refine blkP.mk ?_; (try simp (disch := first | omega | (simp only [LN]; omega)) only [↓EC, EW, seval, ↓reduceIte, false_imp_iff, ↓EBD, bne_self_eq_false, beq_self_eq_true, Bool.and_self, Bool.not_true, Bool.not_false])))
            exact ⟨s, a2, z2, rfl, rfl, by assumption, by omega⟩
      · ((try simp (disch := first | omega | (simp only [LN]; omega)) only [↓EC, EW, seval, ↓reduceIte, false_imp_iff, ↓EBD, bne_self_eq_false, beq_self_eq_true, Bool.and_self, Bool.not_true, Bool.not_false]); repeat (refine blkP.mk ?_; (try simp (disch := first | omega | (simp only [LN]; omega)) only [↓EC, EW, seval, ↓reduceIte, false_imp_iff, ↓EBD, bne_self_eq_false, beq_self_eq_true, Bool.and_self, Bool.not_true, Bool.not_false])))
        exact ⟨s, a2, z2, rfl, rfl, by assumption, by omega⟩
theorem c_spec_l10DrawSet {x : Value} {l : List Int} {a z : Int} (hs : okS l a) : PSpecM Try.prog 65 [.ptr 0 0] [(0, 97, 1)] [srcC x l a z] fun v c =>
    ∃ s a' z', v = .own 27 2 s.length (v2 .i64 s) ∧ c = [srcC x l a' z'] ∧ okS l a' ∧ s.length ≤ 100 := by
  refine spec_l10DrawSet_f.m rfl rfl ?_
  unfold srcC
  dsimp only [spec_l10DrawSet_F, pcal_B, pcalp_B, pcond_B, pgk_B, JN_B, LP_B]
  ((try simp (disch := first | omega | (simp only [LN]; omega)) only [↓EC, EW, seval, ↓reduceIte, false_imp_iff, ↓EBD, bne_self_eq_false, beq_self_eq_true, Bool.and_self, Bool.not_true, Bool.not_false]); repeat (refine blkP.mk ?_; (try simp (disch := first | omega | (simp only [LN]; omega)) only [↓EC, EW, seval, ↓reduceIte, false_imp_iff, ↓EBD, bne_self_eq_false, beq_self_eq_true, Bool.and_self, Bool.not_true, Bool.not_false])))
  (refine pcm [0] rfl ?_; ((try simp (disch := first | omega | (simp only [LN]; omega)) only [↓EC, EW, seval, ↓reduceIte, false_imp_iff, ↓EBD, bne_self_eq_false, beq_self_eq_true, Bool.and_self, Bool.not_true, Bool.not_false]); repeat (refine blkP.mk ?_; (try simp (disch := first | omega | (simp only [LN]; omega)) only [↓EC, EW, seval, ↓reduceIte, false_imp_iff, ↓EBD, bne_self_eq_false, beq_self_eq_true, Bool.and_self, Bool.not_true, Bool.not_false]))); refine callM_d (c_spec_l01Next (by assumption) (by omega)) ?_; rintro _ _ ⟨r1, _, _, rfl, rfl, hs_, hr_⟩; ((try simp (disch := first | omega | (simp only [LN]; omega)) only [↓EC, EW, seval, ↓reduceIte, false_imp_iff, ↓EBD, bne_self_eq_false, beq_self_eq_true, Bool.and_self, Bool.not_true, Bool.not_false, srcC]); repeat (refine blkP.mk ?_; (try simp (disch := first | omega | (simp only [LN]; omega)) only [↓EC, EW, seval, ↓reduceIte, false_imp_iff, ↓EBD, bne_self_eq_false, beq_self_eq_true, Bool.and_self, Bool.not_true, Bool.not_false, srcC]))))
  (refine pcm [0] rfl ?_; ((try simp (disch := first | omega | (simp only [LN]; omega)) only [↓EC, EW, seval, ↓reduceIte, false_imp_iff, ↓EBD, bne_self_eq_false, beq_self_eq_true, Bool.and_self, Bool.not_true, Bool.not_false]); repeat (refine blkP.mk ?_; (try simp (disch := first | omega | (simp only [LN]; omega)) only [↓EC, EW, seval, ↓reduceIte, false_imp_iff, ↓EBD, bne_self_eq_false, beq_self_eq_true, Bool.and_self, Bool.not_true, Bool.not_false]))); refine callM_d (c_spec_l01Pick (m := [1, 1, 2, 2, 3, r1]) (by assumption) (by simp) (by simp)) ?_; rintro _ _ ⟨y1, _, _, hy_, rfl, rfl, hs_⟩; simp only [List.mem_cons, List.not_mem_nil, or_false] at hy_; ((try simp (disch := first | omega | (simp only [LN]; omega)) only [↓EC, EW, seval, ↓reduceIte, false_imp_iff, ↓EBD, bne_self_eq_false, beq_self_eq_true, Bool.and_self, Bool.not_true, Bool.not_false, srcC]); repeat (refine blkP.mk ?_; (try simp (disch := first | omega | (simp only [LN]; omega)) only [↓EC, EW, seval, ↓reduceIte, false_imp_iff, ↓EBD, bne_self_eq_false, beq_self_eq_true, Bool.and_self, Bool.not_true, Bool.not_false, srcC]))))
  rename_i a1 z1
  have hy1 : 0 ≤ y1 ∧ y1 ≤ 5 := by omega
  refine LPx_ofE (σ := List (Int × Int) × Int × Int × Int) [2, 1] 100000 [(0, 97, 1)] (fun s => [.own 27 2 s.1.length (v2 .i64 s.1), .int .i64 s.2.1]) (fun s => [srcC x l s.2.2.1 s.2.2.2])
    (fun s => okS l s.2.2.1 ∧ allF s.1 ∧ s.1.length + s.2.1 ≤ 5 ∧ 0 ≤ s.2.1) (fun s => s.2.1.toNat) ([], y1, a1, z1) (by simp [frameOk, names, lpz, sclp, scv, scvs, vi_nrf, vb_nrf, vt_nrf, v2_nrf, v3_nrf, nrfs, nrf, sc_vi, sc_vb, sc_vt, sc_v2, sc_v3, sc_vo, sc_vl, vo_nrf, vl_nrf, sc_vn, vn_nrf]) ⟨by assumption, fun a ha => by simp at ha, by simp only [List.length_nil]; omega, by simp only; omega⟩ ?_ ?_
  · (simp (disch := first | omega | (simp only [LN]; omega)) only [↓EC, EW, seval, ↓reduceIte, false_imp_iff, ↓EBD, bne_self_eq_false, beq_self_eq_true, Bool.and_self, Bool.not_true, Bool.not_false, ColV_def, srcC]; repeat (refine blkP.mk ?_; simp (disch := first | omega | (simp only [LN]; omega)) only [↓EC, EW, seval, ↓reduceIte, false_imp_iff, ↓EBD, bne_self_eq_false, beq_self_eq_true, Bool.and_self, Bool.not_true, Bool.not_false, ColV_def, srcC]))
    exact ⟨fun _ => trivial, trivial⟩
  · rintro ⟨s, k, a, z⟩ ⟨h1, h0, h2, h3⟩
    simp only at h0 h1 h2 h3
    (simp (disch := first | omega | (simp only [LN]; omega)) only [↓EC, EW, seval, ↓reduceIte, false_imp_iff, ↓EBD, bne_self_eq_false, beq_self_eq_true, Bool.and_self, Bool.not_true, Bool.not_false, ColV_def, lheap_def, srcC]; repeat (refine blkP.mk ?_; simp (disch := first | omega | (simp only [LN]; omega)) only [↓EC, EW, seval, ↓reduceIte, false_imp_iff, ↓EBD, bne_self_eq_false, beq_self_eq_true, Bool.and_self, Bool.not_true, Bool.not_false, ColV_def, lheap_def, srcC]))
    (refine Split.mkB (fun h => ?_) (fun h => ?_) <;> (try simp only [decide_eq_true_eq, decide_eq_false_iff_not, beq_iff_eq, bne_iff_ne, beq_eq_false_iff_ne, bne_eq_false_iff_eq, Bool.not_eq_true', Bool.not_eq_false', Bool.and_eq_true, Bool.or_eq_true, Bool.and_eq_false_iff, Bool.or_eq_false_iff, Int.not_lt, Int.not_le, Bool.false_eq_true, Bool.true_eq_false, false_and, and_false, true_and, and_true, or_false, false_or, or_true, true_or, not_true_eq_false, not_false_eq_true] at h))
    · ((try simp (disch := first | omega | (simp only [LN]; omega)) only [↓EC, EW, seval, ↓reduceIte, false_imp_iff, ↓EBD, bne_self_eq_false, beq_self_eq_true, Bool.and_self, Bool.not_true, Bool.not_false]); repeat (refine blkP.mk ?_; (try simp (disch := first | omega | (simp only [LN]; omega)) only [↓EC, EW, seval, ↓reduceIte, false_imp_iff, ↓EBD, bne_self_eq_false, beq_self_eq_true, Bool.and_self, Bool.not_true, Bool.not_false])))
      refine JNx_un ?_
      ((try simp (disch := first | omega | (simp only [LN]; omega)) only [↓EC, EW, seval, ↓reduceIte, false_imp_iff, ↓EBD, bne_self_eq_false, beq_self_eq_true, Bool.and_self, Bool.not_true, Bool.not_false]); repeat (refine blkP.mk ?_; (try simp (disch := first | omega | (simp only [LN]; omega)) only [↓EC, EW, seval, ↓reduceIte, false_imp_iff, ↓EBD, bne_self_eq_false, beq_self_eq_true, Bool.and_self, Bool.not_true, Bool.not_false])))
      (refine pcm [0] rfl ?_; ((try simp (disch := first | omega | (simp only [LN]; omega)) only [↓EC, EW, seval, ↓reduceIte, false_imp_iff, ↓EBD, bne_self_eq_false, beq_self_eq_true, Bool.and_self, Bool.not_true, Bool.not_false]); repeat (refine blkP.mk ?_; (try simp (disch := first | omega | (simp only [LN]; omega)) only [↓EC, EW, seval, ↓reduceIte, false_imp_iff, ↓EBD, bne_self_eq_false, beq_self_eq_true, Bool.and_self, Bool.not_true, Bool.not_false]))); refine callM_d (c_spec_l01Next (by assumption) (by omega)) ?_; rintro _ _ ⟨r2, _, _, rfl, rfl, hs_, hr_⟩; ((try simp (disch := first | omega | (simp only [LN]; omega)) only [↓EC, EW, seval, ↓reduceIte, false_imp_iff, ↓EBD, bne_self_eq_false, beq_self_eq_true, Bool.and_self, Bool.not_true, Bool.not_false, srcC]); repeat (refine blkP.mk ?_; (try simp (disch := first | omega | (simp only [LN]; omega)) only [↓EC, EW, seval, ↓reduceIte, false_imp_iff, ↓EBD, bne_self_eq_false, beq_self_eq_true, Bool.and_self, Bool.not_true, Bool.not_false, srcC]))))
      (refine pcm [0] rfl ?_; ((try simp (disch := first | omega | (simp only [LN]; omega)) only [↓EC, EW, seval, ↓reduceIte, false_imp_iff, ↓EBD, bne_self_eq_false, beq_self_eq_true, Bool.and_self, Bool.not_true, Bool.not_false]); repeat (refine blkP.mk ?_; (try simp (disch := first | omega | (simp only [LN]; omega)) only [↓EC, EW, seval, ↓reduceIte, false_imp_iff, ↓EBD, bne_self_eq_false, beq_self_eq_true, Bool.and_self, Bool.not_true, Bool.not_false]))); refine callM_d (c_spec_l01Next (by assumption) (by omega)) ?_; rintro _ _ ⟨r3, _, _, rfl, rfl, hs_, hr_⟩; ((try simp (disch := first | omega | (simp only [LN]; omega)) only [↓EC, EW, seval, ↓reduceIte, false_imp_iff, ↓EBD, bne_self_eq_false, beq_self_eq_true, Bool.and_self, Bool.not_true, Bool.not_false, srcC]); repeat (refine blkP.mk ?_; (try simp (disch := first | omega | (simp only [LN]; omega)) only [↓EC, EW, seval, ↓reduceIte, false_imp_iff, ↓EBD, bne_self_eq_false, beq_self_eq_true, Bool.and_self, Bool.not_true, Bool.not_false, srcC]))))
      refine pcd_v (c_spec_l10Make (by omega) (by unfold lim62; omega) (by unfold lim62; omega)) ?_
      ((try simp (disch := first | omega | (simp only [LN]; omega)) only [↓EC, EW, seval, ↓reduceIte, false_imp_iff, ↓EBD, bne_self_eq_false, beq_self_eq_true, Bool.and_self, Bool.not_true, Bool.not_false]); repeat (refine blkP.mk ?_; (try simp (disch := first | omega | (simp only [LN]; omega)) only [↓EC, EW, seval, ↓reduceIte, false_imp_iff, ↓EBD, bne_self_eq_false, beq_self_eq_true, Bool.and_self, Bool.not_true, Bool.not_false])))
      refine JNx_un ?_
      ((try simp (disch := first | omega | (simp only [LN]; omega)) only [↓EC, EW, seval, ↓reduceIte, false_imp_iff, ↓EBD, bne_self_eq_false, beq_self_eq_true, Bool.and_self, Bool.not_true, Bool.not_false]); repeat (refine blkP.mk ?_; (try simp (disch := first | omega | (simp only [LN]; omega)) only [↓EC, EW, seval, ↓reduceIte, false_imp_iff, ↓EBD, bne_self_eq_false, beq_self_eq_true, Bool.and_self, Bool.not_true, Bool.not_false])))
      (refine pcm [0] rfl ?_; ((try simp (disch := first | omega | (simp only [LN]; omega)) only [↓EC, EW, seval, ↓reduceIte, false_imp_iff, ↓EBD, bne_self_eq_false, beq_self_eq_true, Bool.and_self, Bool.not_true, Bool.not_false]); repeat (refine blkP.mk ?_; (try simp (disch := first | omega | (simp only [LN]; omega)) only [↓EC, EW, seval, ↓reduceIte, false_imp_iff, ↓EBD, bne_self_eq_false, beq_self_eq_true, Bool.and_self, Bool.not_true, Bool.not_false]))); refine callM_d (c_spec_l01Next (by assumption) (by omega)) ?_; rintro _ _ ⟨r4, _, _, rfl, rfl, hs_, hr_⟩; ((try simp (disch := first | omega | (simp only [LN]; omega)) only [↓EC, EW, seval, ↓reduceIte, false_imp_iff, ↓EBD, bne_self_eq_false, beq_self_eq_true, Bool.and_self, Bool.not_true, Bool.not_false, srcC]); repeat (refine blkP.mk ?_; (try simp (disch := first | omega | (simp only [LN]; omega)) only [↓EC, EW, seval, ↓reduceIte, false_imp_iff, ↓EBD, bne_self_eq_false, beq_self_eq_true, Bool.and_self, Bool.not_true, Bool.not_false, srcC]))))
      (refine Split.mkB (fun h => ?_) (fun h => ?_) <;> (try simp only [decide_eq_true_eq, decide_eq_false_iff_not, beq_iff_eq, bne_iff_ne, beq_eq_false_iff_ne, bne_eq_false_iff_eq, Bool.not_eq_true', Bool.not_eq_false', Bool.and_eq_true, Bool.or_eq_true, Bool.and_eq_false_iff, Bool.or_eq_false_iff, Int.not_lt, Int.not_le, Bool.false_eq_true, Bool.true_eq_false, false_and, and_false, true_and, and_true, or_false, false_or, or_true, true_or, not_true_eq_false, not_false_eq_true] at h))
      · ((try simp (disch := first | omega | (simp only [LN]; omega)) only [↓EC, EW, seval, ↓reduceIte, false_imp_iff, ↓EBD, bne_self_eq_false, beq_self_eq_true, Bool.and_self, Bool.not_true, Bool.not_false]); repeat (refine blkP.mk ?_; (try simp (disch := first | omega | (simp only [LN]; omega)) only [↓EC, EW, seval, ↓reduceIte, false_imp_iff, ↓EBD, bne_self_eq_false, beq_self_eq_true, Bool.and_self, Bool.not_true, Bool.not_false])))
        (refine pcm [0] rfl ?_; ((try simp (disch := first | omega | (simp only [LN]; omega)) only [↓EC, EW, seval, ↓reduceIte, false_imp_iff, ↓EBD, bne_self_eq_false, beq_self_eq_true, Bool.and_self, Bool.not_true, Bool.not_false]); repeat (refine blkP.mk ?_; (try simp (disch := first | omega | (simp only [LN]; omega)) only [↓EC, EW, seval, ↓reduceIte, false_imp_iff, ↓EBD, bne_self_eq_false, beq_self_eq_true, Bool.and_self, Bool.not_true, Bool.not_false]))); refine callM_d (c_spec_l10Draw (by assumption)) ?_; rintro _ _ ⟨fn, fd, a2, z2, rfl, rfl, hs_⟩; ((try simp (disch := first | omega | (simp only [LN]; omega)) only [↓EC, EW, seval, ↓reduceIte, false_imp_iff, ↓EBD, bne_self_eq_false, beq_self_eq_true, Bool.and_self, Bool.not_true, Bool.not_false, srcC]); repeat (refine blkP.mk ?_; (try simp (disch := first | omega | (simp only [LN]; omega)) only [↓EC, EW, seval, ↓reduceIte, false_imp_iff, ↓EBD, bne_self_eq_false, beq_self_eq_true, Bool.and_self, Bool.not_true, Bool.not_false, srcC]))))
        refine pcd_v c_spec_l10Is ?_
        ((try simp (disch := first | omega | (simp only [LN]; omega)) only [↓EC, EW, seval, ↓reduceIte, false_imp_iff, ↓EBD, bne_self_eq_false, beq_self_eq_true, Bool.and_self, Bool.not_true, Bool.not_false]); repeat (refine blkP.mk ?_; (try simp (disch := first | omega | (simp only [LN]; omega)) only [↓EC, EW, seval, ↓reduceIte, false_imp_iff, ↓EBD, bne_self_eq_false, beq_self_eq_true, Bool.and_self, Bool.not_true, Bool.not_false])))
        (refine Split.mkB (fun h => ?_) (fun h => ?_) <;> (try simp only [decide_eq_true_eq, decide_eq_false_iff_not, beq_iff_eq, bne_iff_ne, beq_eq_false_iff_ne, bne_eq_false_iff_eq, Bool.not_eq_true', Bool.not_eq_false', Bool.and_eq_true, Bool.or_eq_true, Bool.and_eq_false_iff, Bool.or_eq_false_iff, Int.not_lt, Int.not_le, Bool.false_eq_true, Bool.true_eq_false, false_and, and_false, true_and, and_true, or_false, false_or, or_true, true_or, not_true_eq_false, not_false_eq_true] at h))
        · ((try simp (disch := first | omega | (simp only [LN]; omega)) only [↓EC, EW, seval, ↓reduceIte, false_imp_iff, ↓EBD, bne_self_eq_false, beq_self_eq_true, Bool.and_self, Bool.not_true, Bool.not_false]); repeat (refine blkP.mk ?_; (try simp (disch := first | omega | (simp only [LN]; omega)) only [↓EC, EW, seval, ↓reduceIte, false_imp_iff, ↓EBD, bne_self_eq_false, beq_self_eq_true, Bool.and_self, Bool.not_true, Bool.not_false])))
          exact ⟨(s, k - 1, a2, z2), rfl, rfl, ⟨by assumption, h0, by simp only; omega, by simp only; omega⟩, by simp only; omega⟩
        · have hF : isFr fn fd = true := by simpa using h
          ((try simp (disch := first | omega | (simp only [LN]; omega)) only [↓EC, EW, seval, ↓reduceIte, false_imp_iff, ↓EBD, bne_self_eq_false, beq_self_eq_true, Bool.and_self, Bool.not_true, Bool.not_false]); repeat (refine blkP.mk ?_; (try simp (disch := first | omega | (simp only [LN]; omega)) only [↓EC, EW, seval, ↓reduceIte, false_imp_iff, ↓EBD, bne_self_eq_false, beq_self_eq_true, Bool.and_self, Bool.not_true, Bool.not_false])))
          refine LPx_of (σ := Nat) 200000 [(0, 97, 1), (100000, 27, 2), (69, 27, 1)] (fun i => [.int .i64 i]) (fun _ => [srcC x l a2 z2, v2 .i64 s, [.int .i64 fn, .int .i64 fd]]) (fun i => i ≤ s.length) (fun i => s.length - i) 0 (by simp [frameOk, names, lpz, sclp, scv, scvs, vi_nrf, vb_nrf, vt_nrf, v2_nrf, v3_nrf, nrfs, nrf, sc_vi, sc_vb, sc_vt, sc_v2, sc_v3, sc_vo, sc_vl, vo_nrf, vl_nrf, sc_vn, vn_nrf]) (Nat.zero_le _) ?_ ?_
          · (simp (disch := first | omega | (simp only [LN]; omega)) only [↓EC, EW, seval, ↓reduceIte, false_imp_iff, ↓EBD, bne_self_eq_false, beq_self_eq_true, Bool.and_self, Bool.not_true, Bool.not_false, ColV_def, srcC]; repeat (refine blkP.mk ?_; simp (disch := first | omega | (simp only [LN]; omega)) only [↓EC, EW, seval, ↓reduceIte, false_imp_iff, ↓EBD, bne_self_eq_false, beq_self_eq_true, Bool.and_self, Bool.not_true, Bool.not_false, ColV_def, srcC]))
          · intro i hi
            have d1 : (v2 .i64 s).drop (i * 2) = v2 .i64 (s.drop i) := v2_drop hi
            have d2 : (v2 .i64 s).take (i * 2) = v2 .i64 (s.take i) := v2_take hi
            have d3 : (v2 .i64 (s.drop i)).take ((s.length - i) * 2) = v2 .i64 (s.drop i) := v2_tk (by rw [List.length_drop])
            have cc : V.int .i64 fn :: V.int .i64 fd :: v2 .i64 (s.drop i) = v2 .i64 ((fn, fd) :: s.drop i) := rfl
            have hl' : (s.take i ++ (fn, fd) :: s.drop i).length = i + (1 + (s.length - i)) := by simp only [List.length_append, List.length_take, List.length_cons, List.length_drop]; omega
            have fl : allF (s.take i ++ (fn, fd) :: s.drop i) := by
              intro b hb
              rcases List.mem_append.1 hb with hb | hb
              · exact h0 b (List.mem_of_mem_take hb)
              · rcases List.mem_cons.1 hb with rfl | hb
                · exact hF
                · exact h0 b (List.mem_of_mem_drop hb)
            (simp (disch := first | omega | (simp only [LN]; omega)) only [↓EC, EW, seval, ↓reduceIte, false_imp_iff, ↓EBD, bne_self_eq_false, beq_self_eq_true, Bool.and_self, Bool.not_true, Bool.not_false, ColV_def, lheap_def, srcC]; repeat (refine blkP.mk ?_; simp (disch := first | omega | (simp only [LN]; omega)) only [↓EC, EW, seval, ↓reduceIte, false_imp_iff, ↓EBD, bne_self_eq_false, beq_self_eq_true, Bool.and_self, Bool.not_true, Bool.not_false, ColV_def, lheap_def, srcC]))
            (refine Split.mkB (fun h => ?_) (fun h => ?_) <;> (try simp only [decide_eq_true_eq, decide_eq_false_iff_not, beq_iff_eq, bne_iff_ne, beq_eq_false_iff_ne, bne_eq_false_iff_eq, Bool.not_eq_true', Bool.not_eq_false', Bool.and_eq_true, Bool.or_eq_true, Bool.and_eq_false_iff, Bool.or_eq_false_iff, Int.not_lt, Int.not_le, Bool.false_eq_true, Bool.true_eq_false, false_and, and_false, true_and, and_true, or_false, false_or, or_true, true_or, not_true_eq_false, not_false_eq_true] at h))
            · ((try simp (disch := first | omega | (simp only [LN]; omega)) only [↓EC, EW, seval, ↓reduceIte, false_imp_iff, ↓EBD, bne_self_eq_false, beq_self_eq_true, Bool.and_self, Bool.not_true, Bool.not_false]); repeat (refine blkP.mk ?_; (try simp (disch := first | omega | (simp only [LN]; omega)) only [↓EC, EW, seval, ↓reduceIte, false_imp_iff, ↓EBD, bne_self_eq_false, beq_self_eq_true, Bool.and_self, Bool.not_true, Bool.not_false])))
              refine pcd_v (c_spec_l10Compare (h0 _ (mem_g2.2 ⟨i, by omega, rfl⟩)) hF) ?_
              ((try simp (disch := first | omega | (simp only [LN]; omega)) only [↓EC, EW, seval, ↓reduceIte, false_imp_iff, ↓EBD, bne_self_eq_false, beq_self_eq_true, Bool.and_self, Bool.not_true, Bool.not_false]); repeat (refine blkP.mk ?_; (try simp (disch := first | omega | (simp only [LN]; omega)) only [↓EC, EW, seval, ↓reduceIte, false_imp_iff, ↓EBD, bne_self_eq_false, beq_self_eq_true, Bool.and_self, Bool.not_true, Bool.not_false])))
              (refine Split.mkB (fun h => ?_) (fun h => ?_) <;> (try simp only [decide_eq_true_eq, decide_eq_false_iff_not, beq_iff_eq, bne_iff_ne, beq_eq_false_iff_ne, bne_eq_false_iff_eq, Bool.not_eq_true', Bool.not_eq_false', Bool.and_eq_true, Bool.or_eq_true, Bool.and_eq_false_iff, Bool.or_eq_false_iff, Int.not_lt, Int.not_le, Bool.false_eq_true, Bool.true_eq_false, false_and, and_false, true_and, and_true, or_false, false_or, or_true, true_or, not_true_eq_false, not_false_eq_true] at h))
              · ((try simp (disch := first | omega | (simp only [LN]; omega)) only [↓EC, EW, seval, ↓reduceIte, false_imp_iff, ↓EBD, bne_self_eq_false, beq_self_eq_true, Bool.and_self, Bool.not_true, Bool.not_false]); repeat (refine blkP.mk ?_; (try simp (disch := first | omega | (simp only [LN]; omega)) only [↓EC, EW, seval, ↓reduceIte, false_imp_iff, ↓EBD, bne_self_eq_false, beq_self_eq_true, Bool.and_self, Bool.not_true, Bool.not_false])))
                exact ⟨i + 1, by simp, by omega, by omega⟩
              · have hne : ((i : Int) == (s.length : Int)) = false := by simp; omega
                ((try simp (disch := first | omega | (simp only [LN]; omega)) only [↓EC, EW, seval, ↓reduceIte, false_imp_iff, ↓EBD, bne_self_eq_false, beq_self_eq_true, Bool.and_self, Bool.not_true, Bool.not_false, hne]); repeat (refine blkP.mk ?_; (try simp (disch := first | omega | (simp only [LN]; omega)) only [↓EC, EW, seval, ↓reduceIte, false_imp_iff, ↓EBD, bne_self_eq_false, beq_self_eq_true, Bool.and_self, Bool.not_true, Bool.not_false, hne])))
                (refine Split.mkB (fun h => ?_) (fun h => ?_) <;> (try simp only [decide_eq_true_eq, decide_eq_false_iff_not, beq_iff_eq, bne_iff_ne, beq_eq_false_iff_ne, bne_eq_false_iff_eq, Bool.not_eq_true', Bool.not_eq_false', Bool.and_eq_true, Bool.or_eq_true, Bool.and_eq_false_iff, Bool.or_eq_false_iff, Int.not_lt, Int.not_le, Bool.false_eq_true, Bool.true_eq_false, false_and, and_false, true_and, and_true, or_false, false_or, or_true, true_or, not_true_eq_false, not_false_eq_true] at h))
                · ((try simp (disch := first | omega | (simp only [LN]; omega)) only [↓EC, EW, seval, ↓reduceIte, false_imp_iff, ↓EBD, bne_self_eq_false, beq_self_eq_true, Bool.and_self, Bool.not_true, Bool.not_false, d1, d2, d3, cc]); repeat (refine blkP.mk ?_; (try simp (disch := first | omega | (simp only [LN]; omega)) only [↓EC, EW, seval, ↓reduceIte, false_imp_iff, ↓EBD, bne_self_eq_false, beq_self_eq_true, Bool.and_self, Bool.not_true, Bool.not_false, d1, d2, d3, cc])))
                  exact ⟨(s.take i ++ (fn, fd) :: s.drop i, k - 1, a2, z2), by simp only [hl'], rfl, ⟨by assumption, fl, by simp only [hl']; omega, by simp only; omega⟩, by simp only; omega⟩
                · ((try simp (disch := first | omega | (simp only [LN]; omega)) only [↓EC, EW, seval, ↓reduceIte, false_imp_iff, ↓EBD, bne_self_eq_false, beq_self_eq_true, Bool.and_self, Bool.not_true, Bool.not_false]); repeat (refine blkP.mk ?_; (try simp (disch := first | omega | (simp only [LN]; omega)) only [↓EC, EW, seval, ↓reduceIte, false_imp_iff, ↓EBD, bne_self_eq_false, beq_self_eq_true, Bool.and_self, Bool.not_true, Bool.not_false])))
                  exact ⟨(s, k - 1, a2, z2), rfl, rfl, ⟨by assumption, h0, by simp only; omega, by simp only; omega⟩, by simp only; omega⟩
            · have heq : ((i : Int) == (s.length : Int)) = true := by simp; omega
              ((try simp (disch := first | omega | (simp only [LN]; omega)) only [↓EC, EW, seval, ↓reduceIte, false_imp_iff, ↓EBD, bne_self_eq_false, beq_self_eq_true, Bool.and_self, Bool.not_true, Bool.not_false, heq, d1, d2, d3, cc]); repeat (refine blkP.mk ?_; (try simp (disch := first | omega | (simp only [LN]; omega)) only [↓EC, EW, seval, ↓reduceIte, false_imp_iff, ↓EBD, bne_self_eq_false, beq_self_eq_true, Bool.and_self, Bool.not_true, Bool.not_false, heq, d1, d2, d3, cc])))
              have e : s ++ [(fn, fd)] = s.take i ++ (fn, fd) :: s.drop i := by rw [List.take_of_length_le (by omega), List.drop_of_length_le (by omega)]
              rw [e]
              exact ⟨(s.take i ++ (fn, fd) :: s.drop i, k - 1, a2, z2), by simp only [hl'], rfl, ⟨by assumption, fl, by simp only [hl']; omega, by simp only; omega⟩, by simp only; omega⟩
      · ((try simp (disch := first | omega | (simp only [LN]; omega)) only [↓EC, EW, seval, ↓reduceIte, false_imp_iff, ↓EBD, bne_self_eq_false, beq_self_eq_true, Bool.and_self, Bool.not_true, Bool.not_false]); repeat (refine blkP.mk ?_; (try simp (disch := first | omega | (simp only [LN]; omega)) only [↓EC, EW, seval, ↓reduceIte, false_imp_iff, ↓EBD, bne_self_eq_false, beq_self_eq_true, Bool.and_self, Bool.not_true, Bool.not_false])))
        rename_i a2 z2
        generalize numOf r2 (1 + r3) = fn
        generalize denOf r2 (1 + r3) = fd
        refine pcd_v c_spec_l10Is ?_
        ((try simp (disch := first | omega | (simp only [LN]; omega)) only [↓EC, EW, seval, ↓reduceIte, false_imp_iff, ↓EBD, bne_self_eq_false, beq_self_eq_true, Bool.and_self, Bool.not_true, Bool.not_false]); repeat (refine blkP.mk ?_; (try simp (disch := first | omega | (simp only [LN]; omega)) only [↓EC, EW, seval, ↓reduceIte, false_imp_iff, ↓EBD, bne_self_eq_false, beq_self_eq_true, Bool.and_self, Bool.not_true, Bool.not_false])))
        (refine Split.mkB (fun h => ?_) (fun h => ?_) <;> (try simp only [decide_eq_true_eq, decide_eq_false_iff_not, beq_iff_eq, bne_iff_ne, beq_eq_false_iff_ne, bne_eq_false_iff_eq, Bool.not_eq_true', Bool.not_eq_false', Bool.and_eq_true, Bool.or_eq_true, Bool.and_eq_false_iff, Bool.or_eq_false_iff, Int.not_lt, Int.not_le, Bool.false_eq_true, Bool.true_eq_false, false_and, and_false, true_and, and_true, or_false, false_or, or_true, true_or, not_true_eq_false, not_false_eq_true] at h))
        · ((try simp (disch := first | omega | (simp only [LN]; omega)) only [↓EC, EW, seval, ↓reduceIte, false_imp_iff, ↓EBD, bne_self_eq_false, beq_self_eq_true, Bool.and_self, Bool.not_true, Bool.not_false]); repeat (refine blkP.mk ?_; (try simp (disch := first | omega | (simp only [LN]; omega)) only [↓EC, EW, seval, ↓reduceIte, false_imp_iff, ↓EBD, bne_self_eq_false, beq_self_eq_true, Bool.and_self, Bool.not_true, Bool.not_false])))
          exact ⟨(s, k - 1, a2, z2), rfl, rfl, ⟨by assumption, h0, by simp only; omega, by simp only; omega⟩, by simp only; omega⟩
        · have hF : isFr fn fd = true := by simpa using h
          ((try simp (disch := first | omega | (simp only [LN]; omega)) only [↓EC, EW, seval, ↓reduceIte, false_imp_iff, ↓EBD, bne_self_eq_false, beq_self_eq_true, Bool.and_self, Bool.not_true, Bool.not_false]); repeat (refine blkP.mk ?_; (try simp (disch := first | omega | (simp only [LN]; omega)) only [↓EC, EW, seval, ↓reduceIte, false_imp_iff, ↓EBD, bne_self_eq_false, beq_self_eq_true, Bool.and_self, Bool.not_true, Bool.not_false])))
          refine LPx_of (σ := Nat) 200000 [(0, 97, 1), (100000, 27, 2), (69, 27, 1)] (fun i => [.int .i64 i]) (fun _ => [srcC x l a2 z2, v2 .i64 s, [.int .i64 fn, .int .i64 fd]]) (fun i => i ≤ s.length) (fun i => s.length - i) 0 (by simp [frameOk, names, lpz, sclp, scv, scvs, vi_nrf, vb_nrf, vt_nrf, v2_nrf, v3_nrf, nrfs, nrf, sc_vi, sc_vb, sc_vt, sc_v2, sc_v3, sc_vo, sc_vl, vo_nrf, vl_nrf, sc_vn, vn_nrf]) (Nat.zero_le _) ?_ ?_
          · (simp (disch := first | omega | (simp only [LN]; omega)) only [↓EC, EW, seval, ↓reduceIte, false_imp_iff, ↓EBD, bne_self_eq_false, beq_self_eq_true, Bool.and_self, Bool.not_true, Bool.not_false, ColV_def, srcC]; repeat (refine blkP.mk ?_; simp (disch := first | omega | (simp only [LN]; omega)) only [↓EC, EW, seval, ↓reduceIte, false_imp_iff, ↓EBD, bne_self_eq_false, beq_self_eq_true, Bool.and_self, Bool.not_true, Bool.not_false, ColV_def, srcC]))
          · intro i hi
            have d1 : (v2 .i64 s).drop (i * 2) = v2 .i64 (s.drop i) := v2_drop hi
            have d2 : (v2 .i64 s).take (i * 2) = v2 .i64 (s.take i) := v2_take hi
            have d3 : (v2 .i64 (s.drop i)).take ((s.length - i) * 2) = v2 .i64 (s.drop i) := v2_tk (by rw [List.length_drop])
            have cc : V.int .i64 fn :: V.int .i64 fd :: v2 .i64 (s.drop i) = v2 .i64 ((fn, fd) :: s.drop i) := rfl
            have hl' : (s.take i ++ (fn, fd) :: s.drop i).length = i + (1 + (s.length - i)) := by simp only [List.length_append, List.length_take, List.length_cons, List.length_drop]; omega
            have fl : allF (s.take i ++ (fn, fd) :: s.drop i) := by
              intro b hb
              rcases List.mem_append.1 hb with hb | hb
              · exact h0 b (List.mem_of_mem_take hb)
              · rcases List.mem_cons.1 hb with rfl | hb
                · exact hF
                · exact h0 b (List.mem_of_mem_drop hb)
            (simp (disch := first | omega | (simp only [LN]; omega)) only [↓EC, EW, seval, ↓reduceIte, false_imp_iff, ↓EBD, bne_self_eq_false, beq_self_eq_true, Bool.and_self, Bool.not_true, Bool.not_false, ColV_def, lheap_def, srcC]; repeat (refine blkP.mk ?_; simp (disch := first | omega | (simp only [LN]; omega)) only [↓EC, EW, seval, ↓reduceIte, false_imp_iff, ↓EBD, bne_self_eq_false, beq_self_eq_true, Bool.and_self, Bool.not_true, Bool.not_false, ColV_def, lheap_def, srcC]))
            (refine Split.mkB (fun h => ?_) (fun h => ?_) <;> (try simp only [decide_eq_true_eq, decide_eq_false_iff_not, beq_iff_eq, bne_iff_ne, beq_eq_false_iff_ne, bne_eq_false_iff_eq, Bool.not_eq_true', Bool.not_eq_false', Bool.and_eq_true, Bool.or_eq_true, Bool.and_eq_false_iff, Bool.or_eq_false_iff, Int.not_lt, Int.not_le, Bool.false_eq_true, Bool.true_eq_false, false_and, and_false, true_and, and_true, or_false, false_or, or_true, true_or, not_true_eq_false, not_false_eq_true] at h))
            · ((try simp (disch := first | omega | (simp only [LN]; omega)) only [↓EC, EW, seval, ↓reduceIte, false_imp_iff, ↓EBD, bne_self_eq_false, beq_self_eq_true, Bool.and_self, Bool.not_true, Bool.not_false]); repeat (refine blkP.mk ?_; (try simp (disch := first | omega | (simp only [LN]; omega)) only [↓EC, EW, seval, ↓reduceIte, false_imp_iff, ↓EBD, bne_self_eq_false, beq_self_eq_true, Bool.and_self, Bool.not_true, Bool.not_false])))
              refine pcd_v (c_spec_l10Compare (h0 _ (mem_g2.2 ⟨i, by omega, rfl⟩)) hF) ?_
              ((try simp (disch := first | omega | (simp only [LN]; omega)) only [↓EC, EW, seval, ↓reduceIte, false_imp_iff, ↓EBD, bne_self_eq_false, beq_self_eq_true, Bool.and_self, Bool.not_true, Bool.not_false]); repeat (refine blkP.mk ?_; (try simp (disch := first | omega | (simp only [LN]; omega)) only [↓EC, EW, seval, ↓reduceIte, false_imp_iff, ↓EBD, bne_self_eq_false, beq_self_eq_true, Bool.and_self, Bool.not_true, Bool.not_false])))
              (refine Split.mkB (fun h => ?_) (fun h => ?_) <;> (try simp only [decide_eq_true_eq, decide_eq_false_iff_not, beq_iff_eq, bne_iff_ne, beq_eq_false_iff_ne, bne_eq_false_iff_eq, Bool.not_eq_true', Bool.not_eq_false', Bool.and_eq_true, Bool.or_eq_true, Bool.and_eq_false_iff, Bool.or_eq_false_iff, Int.not_lt, Int.not_le, Bool.false_eq_true, Bool.true_eq_false, false_and, and_false, true_and, and_true, or_false, false_or, or_true, true_or, not_true_eq_false, not_false_eq_true] at h))
              · ((try simp (disch := first | omega | (simp only [LN]; omega)) only [↓EC, EW, seval, ↓reduceIte, false_imp_iff, ↓EBD, bne_self_eq_false, beq_self_eq_true, Bool.and_self, Bool.not_true, Bool.not_false]); repeat (refine blkP.mk ?_; (try simp (disch := first | omega | (simp only [LN]; omega)) only [↓EC, EW, seval, ↓reduceIte, false_imp_iff, ↓EBD, bne_self_eq_false, beq_self_eq_true, Bool.and_self, Bool.not_true, Bool.not_false])))
                exact ⟨i + 1, by simp, by omega, by omega⟩
              · have hne : ((i : Int) == (s.length : Int)) = false := by simp; omega
                ((try simp (disch := first | omega | (simp only [LN]; omega)) only [↓EC, EW, seval, ↓reduceIte, false_imp_iff, ↓EBD, bne_self_eq_false, beq_self_eq_true, Bool.and_self, Bool.not_true, Bool.not_false, hne]); repeat (refine blkP.mk ?_; (try simp (disch := first | omega | (simp only [LN]; omega)) only [↓EC, EW, seval, ↓reduceIte, false_imp_iff, ↓EBD, bne_self_eq_false, beq_self_eq_true, Bool.and_self, Bool.not_true, Bool.not_false, hne])))
                (refine Split.mkB (fun h => ?_) (fun h => ?_) <;> (try simp only [decide_eq_true_eq, decide_eq_false_iff_not, beq_iff_eq, bne_iff_ne, beq_eq_false_iff_ne, bne_eq_false_iff_eq, Bool.not_eq_true', Bool.not_eq_false', Bool.and_eq_true, Bool.or_eq_true, Bool.and_eq_false_iff, Bool.or_eq_false_iff, Int.not_lt, Int.not_le, Bool.false_eq_true, Bool.true_eq_false, false_and, and_false, true_and, and_true, or_false, false_or, or_true, true_or, not_true_eq_false, not_false_eq_true] at h))
                · ((try simp (disch := first | omega | (simp only [LN]; omega)) only [↓EC, EW, seval, ↓reduceIte, false_imp_iff, ↓EBD, bne_self_eq_false, beq_self_eq_true, Bool.and_self, Bool.not_true, Bool.not_false, d1, d2, d3, cc]); repeat (refine blkP.mk ?_; (try simp (disch := first | omega | (simp only [LN]; omega)) only [↓EC, EW, seval, ↓reduceIte, false_imp_iff, ↓EBD, bne_self_eq_false, beq_self_eq_true, Bool.and_self, Bool.not_true, Bool.not_false, d1, d2, d3, cc])))
                  exact ⟨(s.take i ++ (fn, fd) :: s.drop i, k - 1, a2, z2), by simp only [hl'], rfl, ⟨by assumption, fl, by simp only [hl']; omega, by simp only; omega⟩, by simp only; omega⟩
                · ((try simp (disch := first | omega | (simp only [LN]; omega)) only [↓EC, EW, seval, ↓reduceIte, false_imp_iff, ↓EBD, bne_self_eq_false, beq_self_eq_true, Bool.and_self, Bool.not_true, Bool.not_false]); repeat (refine blkP.mk ?_; (try simp (disch := first | omega | (simp only [LN]; omega)) only [↓EC, EW, seval, ↓reduceIte, false_imp_iff, ↓EBD, bne_self_eq_false, beq_self_eq_true, Bool.and_self, Bool.not_true, Bool.not_false])))
                  exact ⟨(s, k - 1, a2, z2), rfl, rfl, ⟨by assumption, h0, by simp only; omega, by simp only; omega⟩, by simp only; omega⟩
            · have heq : ((i : Int) == (s.length : Int)) = true := by simp; omega
              ((try simp (disch := first | omega | (simp only [LN]; omega)) only [↓EC, EW, seval, ↓reduceIte, false_imp_iff, ↓EBD, bne_self_eq_false, beq_self_eq_true, Bool.and_self, Bool.not_true, Bool.not_false, heq, d1, d2, d3, cc]); repeat (refine blkP.mk ?_; (try simp (disch := first | omega | (simp only [LN]; omega)) only [↓EC, EW, seval, ↓reduceIte, false_imp_iff, ↓EBD, bne_self_eq_false, beq_self_eq_true, Bool.and_self, Bool.not_true, Bool.not_false, heq, d1, d2, d3, cc])))
              have e : s ++ [(fn, fd)] = s.take i ++ (fn, fd) :: s.drop i := by rw [List.take_of_length_le (by omega), List.drop_of_length_le (by omega)]
              rw [e]
              exact ⟨(s.take i ++ (fn, fd) :: s.drop i, k - 1, a2, z2), by simp only [hl'], rfl, ⟨by assumption, fl, by simp only [hl']; omega, by simp only; omega⟩, by simp only; omega⟩
    --END
    · ((try simp (disch := first | omega | (simp only [LN]; omega)) only [↓EC, EW, seval, ↓reduceIte, false_imp_iff, ↓EBD, bne_self_eq_false, beq_self_eq_true, Bool.and_self, Bool.not_true, Bool.not_false]); repeat (refine blkP.mk ?_; (try simp (disch := first | omega | (simp only [LN]; omega)) only [↓EC, EW, seval, ↓reduceIte, false_imp_iff, ↓EBD, bne_self_eq_false, beq_self_eq_true, Bool.and_self, Bool.not_true, Bool.not_false])))
      refine JNx_un ?_
      ((try simp (disch := first | omega | (simp only [LN]; omega)) only [↓EC, EW, seval, ↓reduceIte, false_imp_iff, ↓EBD, bne_self_eq_false, beq_self_eq_true, Bool.and_self, Bool.not_true, Bool.not_false]); repeat (refine blkP.mk ?_; (try simp (disch := first | omega | (simp only [LN]; omega)) only [↓EC, EW, seval, ↓reduceIte, false_imp_iff, ↓EBD, bne_self_eq_false, beq_self_eq_true, Bool.and_self, Bool.not_true, Bool.not_false])))
      (refine Split.mkB (fun h => ?_) (fun h => ?_) <;> (try simp only [decide_eq_true_eq, decide_eq_false_iff_not, beq_iff_eq, bne_iff_ne, beq_eq_false_iff_ne, bne_eq_false_iff_eq, Bool.not_eq_true', Bool.not_eq_false', Bool.and_eq_true, Bool.or_eq_true, Bool.and_eq_false_iff, Bool.or_eq_false_iff, Int.not_lt, Int.not_le, Bool.false_eq_true, Bool.true_eq_false, false_and, and_false, true_and, and_true, or_false, false_or, or_true, true_or, not_true_eq_false, not_false_eq_true] at h))
      · ((try simp (disch := first | omega | (simp only [LN]; omega)) only [↓EC, EW, seval, ↓reduceIte, false_imp_iff, ↓EBD, bne_self_eq_false, beq_self_eq_true, Bool.and_self, Bool.not_true, Bool.not_false]); repeat (refine blkP.mk ?_; (try simp (disch := first | omega | (simp only [LN]; omega)) only [↓EC, EW, seval, ↓reduceIte, false_imp_iff, ↓EBD, bne_self_eq_false, beq_self_eq_true, Bool.and_self, Bool.not_true, Bool.not_false])))
        (refine pcm [0] rfl ?_; ((try simp (disch := first | omega | (simp only [LN]; omega)) only [↓EC, EW, seval, ↓reduceIte, false_imp_iff, ↓EBD, bne_self_eq_false, beq_self_eq_true, Bool.and_self, Bool.not_true, Bool.not_false]); repeat (refine blkP.mk ?_; (try simp (disch := first | omega | (simp only [LN]; omega)) only [↓EC, EW, seval, ↓reduceIte, false_imp_iff, ↓EBD, bne_self_eq_false, beq_self_eq_true, Bool.and_self, Bool.not_true, Bool.not_false]))); refine callM_d (c_spec_l01Next (by assumption) (by omega)) ?_; rintro _ _ ⟨r5, _, _, rfl, rfl, hs_, hr_⟩; ((try simp (disch := first | omega | (simp only [LN]; omega)) only [↓EC, EW, seval, ↓reduceIte, false_imp_iff, ↓EBD, bne_self_eq_false, beq_self_eq_true, Bool.and_self, Bool.not_true, Bool.not_false, srcC]); repeat (refine blkP.mk ?_; (try simp (disch := first | omega | (simp only [LN]; omega)) only [↓EC, EW, seval, ↓reduceIte, false_imp_iff, ↓EBD, bne_self_eq_false, beq_self_eq_true, Bool.and_self, Bool.not_true, Bool.not_false, srcC]))))
        rename_i a2 z2
        (refine Split.mkB (fun h => ?_) (fun h => ?_) <;> (try simp only [decide_eq_true_eq, decide_eq_false_iff_not, beq_iff_eq, bne_iff_ne, beq_eq_false_iff_ne, bne_eq_false_iff_eq, Bool.not_eq_true', Bool.not_eq_false', Bool.and_eq_true, Bool.or_eq_true, Bool.and_eq_false_iff, Bool.or_eq_false_iff, Int.not_lt, Int.not_le, Bool.false_eq_true, Bool.true_eq_false, false_and, and_false, true_and, and_true, or_false, false_or, or_true, true_or, not_true_eq_false, not_false_eq_true] at h))
        · ((try simp (disch := first | omega | (simp only [LN]; omega)) only [↓EC, EW, seval, ↓reduceIte, false_imp_iff, ↓EBD, bne_self_eq_false, beq_self_eq_true, Bool.and_self, Bool.not_true, Bool.not_false]); repeat (refine blkP.mk ?_; (try simp (disch := first | omega | (simp only [LN]; omega)) only [↓EC, EW, seval, ↓reduceIte, false_imp_iff, ↓EBD, bne_self_eq_false, beq_self_eq_true, Bool.and_self, Bool.not_true, Bool.not_false])))
          have t0 : List.take 2 (v2 .i64 s) = [.int .i64 (g2 s 0).1, .int .i64 (g2 s 0).2] := by
            have := v2_at (k := .i64) (l := s) (i := 0) (by omega)
            simpa using this
          have tk : (v2 .i64 (s ++ [((g2 s 0).1, (g2 s 0).2)])).take ((s.length + 1) * 2) = v2 .i64 (s ++ [((g2 s 0).1, (g2 s 0).2)]) := v2_tk (by simp)
          ((try simp (disch := first | omega | (simp only [LN]; omega)) only [↓EC, EW, seval, ↓reduceIte, false_imp_iff, ↓EBD, bne_self_eq_false, beq_self_eq_true, Bool.and_self, Bool.not_true, Bool.not_false, t0, tk]); repeat (refine blkP.mk ?_; (try simp (disch := first | omega | (simp only [LN]; omega)) only [↓EC, EW, seval, ↓reduceIte, false_imp_iff, ↓EBD, bne_self_eq_false, beq_self_eq_true, Bool.and_self, Bool.not_true, Bool.not_false, t0, tk])))
          exact ⟨s ++ [((g2 s 0).1, (g2 s 0).2)], a2, z2, by simp, rfl, by assumption, by simp only [List.length_append, List.length_cons, List.length_nil]; omega⟩
        · ((try simp (disch := first | omega | (simp only [LN]; omega)) only [↓EC, EW, seval, ↓reduceIte, false_imp_iff, ↓EBD, bne_self_eq_false, beq_self_eq_true, Bool.and_self, Bool.not_true, Bool.not_false]); repeat (refine blkP.mk ?_; (try simp (disch := first | omega | (simp only [LN]; omega)) only [↓EC, EW, seval, ↓reduceIte, false_imp_iff, ↓EBD, bne_self_eq_false, beq_self_eq_true, Bool.and_self, Bool.not_true, Bool.not_false])))
          exact ⟨s, a2, z2, rfl, rfl, by assumption, by omega⟩
      · ((try simp (disch := first | omega | (simp only [LN]; omega)) only [↓EC, EW, seval, ↓reduceIte, false_imp_iff, ↓EBD, bne_self_eq_false, beq_self_eq_true, Bool.and_self, Bool.not_true, Bool.not_false]); repeat (refine blkP.mk ?_; (try simp (disch := first | omega | (simp only [LN]; omega)) only [↓EC, EW, seval, ↓reduceIte, false_imp_iff, ↓EBD, bne_self_eq_false, beq_self_eq_true, Bool.and_self, Bool.not_true, Bool.not_false])))
        exact ⟨s, a, z, rfl, rfl, by assumption, by omega⟩
theorem c_spec_DrawImageOfSet {x : Value} {l : List Int} (hB : okB l) : PSpec Try.prog 25 [.fz x l] fun v => ∃ k f n s, v = .tup [.agg [.int .i64 k, .int .i64 f, .int .i64 n], .own 27 2 s.length (v2 .i64 s)] ∧ s.length ≤ 100 := by
  refine spec_DrawImageOfSet_f.f ?_
  dsimp only [spec_DrawImageOfSet_F, pcal_B, pcalp_B, pcond_B, pgk_B, JN_B, LP_B]
  ((try simp (disch := first | omega | (simp only [LN]; omega)) only [↓EC, EW, seval, ↓reduceIte, false_imp_iff, ↓EBD, bne_self_eq_false, beq_self_eq_true, Bool.and_self, Bool.not_true, Bool.not_false]); repeat (refine blkP.mk ?_; (try simp (disch := first | omega | (simp only [LN]; omega)) only [↓EC, EW, seval, ↓reduceIte, false_imp_iff, ↓EBD, bne_self_eq_false, beq_self_eq_true, Bool.and_self, Bool.not_true, Bool.not_false])))
  refine pcn_q (c_spec_l01From hB) rfl ?_
  rintro _ _ ⟨rfl, z, rfl⟩
  have hs_ := okS_0 hB
  ((try simp (disch := first | omega | (simp only [LN]; omega)) only [↓EC, EW, seval, ↓reduceIte, false_imp_iff, ↓EBD, bne_self_eq_false, beq_self_eq_true, Bool.and_self, Bool.not_true, Bool.not_false, srcC]); repeat (refine blkP.mk ?_; (try simp (disch := first | omega | (simp only [LN]; omega)) only [↓EC, EW, seval, ↓reduceIte, false_imp_iff, ↓EBD, bne_self_eq_false, beq_self_eq_true, Bool.and_self, Bool.not_true, Bool.not_false, srcC])))
  (refine pcm [70] rfl ?_; ((try simp (disch := first | omega | (simp only [LN]; omega)) only [↓EC, EW, seval, ↓reduceIte, false_imp_iff, ↓EBD, bne_self_eq_false, beq_self_eq_true, Bool.and_self, Bool.not_true, Bool.not_false]); repeat (refine blkP.mk ?_; (try simp (disch := first | omega | (simp only [LN]; omega)) only [↓EC, EW, seval, ↓reduceIte, false_imp_iff, ↓EBD, bne_self_eq_false, beq_self_eq_true, Bool.and_self, Bool.not_true, Bool.not_false]))); refine callM_d (c_spec_l10DrawMove (by assumption)) ?_; rintro _ _ ⟨k, f, n, _, _, rfl, rfl, hs_⟩; ((try simp (disch := first | omega | (simp only [LN]; omega)) only [↓EC, EW, seval, ↓reduceIte, false_imp_iff, ↓EBD, bne_self_eq_false, beq_self_eq_true, Bool.and_self, Bool.not_true, Bool.not_false, srcC]); repeat (refine blkP.mk ?_; (try simp (disch := first | omega | (simp only [LN]; omega)) only [↓EC, EW, seval, ↓reduceIte, false_imp_iff, ↓EBD, bne_self_eq_false, beq_self_eq_true, Bool.and_self, Bool.not_true, Bool.not_false, srcC]))))
  refine pcm [70] rfl ?_; ((try simp (disch := first | omega | (simp only [LN]; omega)) only [↓EC, EW, seval, ↓reduceIte, false_imp_iff, ↓EBD, bne_self_eq_false, beq_self_eq_true, Bool.and_self, Bool.not_true, Bool.not_false]); repeat (refine blkP.mk ?_; (try simp (disch := first | omega | (simp only [LN]; omega)) only [↓EC, EW, seval, ↓reduceIte, false_imp_iff, ↓EBD, bne_self_eq_false, beq_self_eq_true, Bool.and_self, Bool.not_true, Bool.not_false])))
  refine callM_do (c_spec_l10DrawSet (by assumption)) ?_
  rintro _ _ ⟨s, a2, z2, rfl, rfl, hs2, hl⟩
  ((try simp (disch := first | omega | (simp only [LN]; omega)) only [↓EC, EW, seval, ↓reduceIte, false_imp_iff, ↓EBD, bne_self_eq_false, beq_self_eq_true, Bool.and_self, Bool.not_true, Bool.not_false, srcC]); repeat (refine blkP.mk ?_; (try simp (disch := first | omega | (simp only [LN]; omega)) only [↓EC, EW, seval, ↓reduceIte, false_imp_iff, ↓EBD, bne_self_eq_false, beq_self_eq_true, Bool.and_self, Bool.not_true, Bool.not_false, srcC])))
  exact ⟨k, f, n, s, rfl, hl⟩
theorem c_spec_DrawNextMove {x : Value} {l : List Int} (hB : okB l) : PSpec Try.prog 31 [.fz x l] fun v => ∃ s, v = .own 27 2 s.length (v2 .i64 s) ∧ s.length ≤ 100 := by
  refine spec_DrawNextMove_f.f ?_
  dsimp only [spec_DrawNextMove_F, pcal_B, pcalp_B, pcond_B, pgk_B, JN_B, LP_B]
  ((try simp (disch := first | omega | (simp only [LN]; omega)) only [↓EC, EW, seval, ↓reduceIte, false_imp_iff, ↓EBD, bne_self_eq_false, beq_self_eq_true, Bool.and_self, Bool.not_true, Bool.not_false]); repeat (refine blkP.mk ?_; (try simp (disch := first | omega | (simp only [LN]; omega)) only [↓EC, EW, seval, ↓reduceIte, false_imp_iff, ↓EBD, bne_self_eq_false, beq_self_eq_true, Bool.and_self, Bool.not_true, Bool.not_false])))
  refine pcn_q (c_spec_l01From hB) rfl ?_
  rintro _ _ ⟨rfl, z, rfl⟩
  have hs_ := okS_0 hB
  ((try simp (disch := first | omega | (simp only [LN]; omega)) only [↓EC, EW, seval, ↓reduceIte, false_imp_iff, ↓EBD, bne_self_eq_false, beq_self_eq_true, Bool.and_self, Bool.not_true, Bool.not_false, srcC]); repeat (refine blkP.mk ?_; (try simp (disch := first | omega | (simp only [LN]; omega)) only [↓EC, EW, seval, ↓reduceIte, false_imp_iff, ↓EBD, bne_self_eq_false, beq_self_eq_true, Bool.and_self, Bool.not_true, Bool.not_false, srcC])))
  refine pcm [68] rfl ?_; ((try simp (disch := first | omega | (simp only [LN]; omega)) only [↓EC, EW, seval, ↓reduceIte, false_imp_iff, ↓EBD, bne_self_eq_false, beq_self_eq_true, Bool.and_self, Bool.not_true, Bool.not_false]); repeat (refine blkP.mk ?_; (try simp (disch := first | omega | (simp only [LN]; omega)) only [↓EC, EW, seval, ↓reduceIte, false_imp_iff, ↓EBD, bne_self_eq_false, beq_self_eq_true, Bool.and_self, Bool.not_true, Bool.not_false])))
  refine callM_do (c_spec_l10DrawSet (by assumption)) ?_
  rintro _ _ ⟨s, a2, z2, rfl, rfl, hs2, hl⟩
  ((try simp (disch := first | omega | (simp only [LN]; omega)) only [↓EC, EW, seval, ↓reduceIte, false_imp_iff, ↓EBD, bne_self_eq_false, beq_self_eq_true, Bool.and_self, Bool.not_true, Bool.not_false, srcC]); repeat (refine blkP.mk ?_; (try simp (disch := first | omega | (simp only [LN]; omega)) only [↓EC, EW, seval, ↓reduceIte, false_imp_iff, ↓EBD, bne_self_eq_false, beq_self_eq_true, Bool.and_self, Bool.not_true, Bool.not_false, srcC])))
  exact ⟨s, rfl, hl⟩
theorem c_spec_DrawChainOfSet {x : Value} {l : List Int} (hB : okB l) : PSpec Try.prog 34 [.fz x l] fun v => ∃ s, v = .own 27 2 s.length (v2 .i64 s) ∧ s.length ≤ 100 := by
  refine spec_DrawChainOfSet_f.f ?_
  dsimp only [spec_DrawChainOfSet_F, pcal_B, pcalp_B, pcond_B, pgk_B, JN_B, LP_B]
  ((try simp (disch := first | omega | (simp only [LN]; omega)) only [↓EC, EW, seval, ↓reduceIte, false_imp_iff, ↓EBD, bne_self_eq_false, beq_self_eq_true, Bool.and_self, Bool.not_true, Bool.not_false]); repeat (refine blkP.mk ?_; (try simp (disch := first | omega | (simp only [LN]; omega)) only [↓EC, EW, seval, ↓reduceIte, false_imp_iff, ↓EBD, bne_self_eq_false, beq_self_eq_true, Bool.and_self, Bool.not_true, Bool.not_false])))
  refine pcn_q (c_spec_l01From hB) rfl ?_
  rintro _ _ ⟨rfl, z, rfl⟩
  have hs_ := okS_0 hB
  ((try simp (disch := first | omega | (simp only [LN]; omega)) only [↓EC, EW, seval, ↓reduceIte, false_imp_iff, ↓EBD, bne_self_eq_false, beq_self_eq_true, Bool.and_self, Bool.not_true, Bool.not_false, srcC]); repeat (refine blkP.mk ?_; (try simp (disch := first | omega | (simp only [LN]; omega)) only [↓EC, EW, seval, ↓reduceIte, false_imp_iff, ↓EBD, bne_self_eq_false, beq_self_eq_true, Bool.and_self, Bool.not_true, Bool.not_false, srcC])))
  refine pcm [68] rfl ?_; ((try simp (disch := first | omega | (simp only [LN]; omega)) only [↓EC, EW, seval, ↓reduceIte, false_imp_iff, ↓EBD, bne_self_eq_false, beq_self_eq_true, Bool.and_self, Bool.not_true, Bool.not_false]); repeat (refine blkP.mk ?_; (try simp (disch := first | omega | (simp only [LN]; omega)) only [↓EC, EW, seval, ↓reduceIte, false_imp_iff, ↓EBD, bne_self_eq_false, beq_self_eq_true, Bool.and_self, Bool.not_true, Bool.not_false])))
  refine callM_do (c_spec_l10DrawSet (by assumption)) ?_
  rintro _ _ ⟨s, a2, z2, rfl, rfl, hs2, hl⟩
  ((try simp (disch := first | omega | (simp only [LN]; omega)) only [↓EC, EW, seval, ↓reduceIte, false_imp_iff, ↓EBD, bne_self_eq_false, beq_self_eq_true, Bool.and_self, Bool.not_true, Bool.not_false, srcC]); repeat (refine blkP.mk ?_; (try simp (disch := first | omega | (simp only [LN]; omega)) only [↓EC, EW, seval, ↓reduceIte, false_imp_iff, ↓EBD, bne_self_eq_false, beq_self_eq_true, Bool.and_self, Bool.not_true, Bool.not_false, srcC])))
  exact ⟨s, rfl, hl⟩
theorem c_spec_DrawDegreeOfMoves {x : Value} {l : List Int} (hB : okB l) : PSpec Try.prog 38 [.fz x l] fun v => ∃ s, v = .own 36 3 s.length (v3 .i64 s) ∧ s.length ≤ 100 := by
  refine spec_DrawDegreeOfMoves_f.f ?_
  dsimp only [spec_DrawDegreeOfMoves_F, pcal_B, pcalp_B, pcond_B, pgk_B, JN_B, LP_B]
  ((try simp (disch := first | omega | (simp only [LN]; omega)) only [↓EC, EW, seval, ↓reduceIte, false_imp_iff, ↓EBD, bne_self_eq_false, beq_self_eq_true, Bool.and_self, Bool.not_true, Bool.not_false]); repeat (refine blkP.mk ?_; (try simp (disch := first | omega | (simp only [LN]; omega)) only [↓EC, EW, seval, ↓reduceIte, false_imp_iff, ↓EBD, bne_self_eq_false, beq_self_eq_true, Bool.and_self, Bool.not_true, Bool.not_false])))
  refine pcn_q (c_spec_l01From hB) rfl ?_
  rintro _ _ ⟨rfl, z, rfl⟩
  have hs_ := okS_0 hB
  ((try simp (disch := first | omega | (simp only [LN]; omega)) only [↓EC, EW, seval, ↓reduceIte, false_imp_iff, ↓EBD, bne_self_eq_false, beq_self_eq_true, Bool.and_self, Bool.not_true, Bool.not_false, srcC]); repeat (refine blkP.mk ?_; (try simp (disch := first | omega | (simp only [LN]; omega)) only [↓EC, EW, seval, ↓reduceIte, false_imp_iff, ↓EBD, bne_self_eq_false, beq_self_eq_true, Bool.and_self, Bool.not_true, Bool.not_false, srcC])))
  refine pcm [68] rfl ?_; ((try simp (disch := first | omega | (simp only [LN]; omega)) only [↓EC, EW, seval, ↓reduceIte, false_imp_iff, ↓EBD, bne_self_eq_false, beq_self_eq_true, Bool.and_self, Bool.not_true, Bool.not_false]); repeat (refine blkP.mk ?_; (try simp (disch := first | omega | (simp only [LN]; omega)) only [↓EC, EW, seval, ↓reduceIte, false_imp_iff, ↓EBD, bne_self_eq_false, beq_self_eq_true, Bool.and_self, Bool.not_true, Bool.not_false])))
  refine callM_do (c_spec_l10DrawMoves (by assumption)) ?_
  rintro _ _ ⟨s, a2, z2, rfl, rfl, hs2, hl⟩
  ((try simp (disch := first | omega | (simp only [LN]; omega)) only [↓EC, EW, seval, ↓reduceIte, false_imp_iff, ↓EBD, bne_self_eq_false, beq_self_eq_true, Bool.and_self, Bool.not_true, Bool.not_false, srcC]); repeat (refine blkP.mk ?_; (try simp (disch := first | omega | (simp only [LN]; omega)) only [↓EC, EW, seval, ↓reduceIte, false_imp_iff, ↓EBD, bne_self_eq_false, beq_self_eq_true, Bool.and_self, Bool.not_true, Bool.not_false, srcC])))
  exact ⟨s, rfl, hl⟩
theorem c_spec_DrawRunMoves {x : Value} {l : List Int} (hB : okB l) : PSpec Try.prog 41 [.fz x l] fun v => ∃ s n d, v = .tup [.own 36 3 s.length (v3 .i64 s), .agg [.int .i64 n, .int .i64 d]] ∧ s.length ≤ 100 := by
  refine spec_DrawRunMoves_f.f ?_
  dsimp only [spec_DrawRunMoves_F, pcal_B, pcalp_B, pcond_B, pgk_B, JN_B, LP_B]
  ((try simp (disch := first | omega | (simp only [LN]; omega)) only [↓EC, EW, seval, ↓reduceIte, false_imp_iff, ↓EBD, bne_self_eq_false, beq_self_eq_true, Bool.and_self, Bool.not_true, Bool.not_false]); repeat (refine blkP.mk ?_; (try simp (disch := first | omega | (simp only [LN]; omega)) only [↓EC, EW, seval, ↓reduceIte, false_imp_iff, ↓EBD, bne_self_eq_false, beq_self_eq_true, Bool.and_self, Bool.not_true, Bool.not_false])))
  refine pcn_q (c_spec_l01From hB) rfl ?_
  rintro _ _ ⟨rfl, z, rfl⟩
  have hs_ := okS_0 hB
  ((try simp (disch := first | omega | (simp only [LN]; omega)) only [↓EC, EW, seval, ↓reduceIte, false_imp_iff, ↓EBD, bne_self_eq_false, beq_self_eq_true, Bool.and_self, Bool.not_true, Bool.not_false, srcC]); repeat (refine blkP.mk ?_; (try simp (disch := first | omega | (simp only [LN]; omega)) only [↓EC, EW, seval, ↓reduceIte, false_imp_iff, ↓EBD, bne_self_eq_false, beq_self_eq_true, Bool.and_self, Bool.not_true, Bool.not_false, srcC])))
  refine pcm [70] rfl ?_; ((try simp (disch := first | omega | (simp only [LN]; omega)) only [↓EC, EW, seval, ↓reduceIte, false_imp_iff, ↓EBD, bne_self_eq_false, beq_self_eq_true, Bool.and_self, Bool.not_true, Bool.not_false]); repeat (refine blkP.mk ?_; (try simp (disch := first | omega | (simp only [LN]; omega)) only [↓EC, EW, seval, ↓reduceIte, false_imp_iff, ↓EBD, bne_self_eq_false, beq_self_eq_true, Bool.and_self, Bool.not_true, Bool.not_false])))
  refine callM_do (c_spec_l10DrawMoves (by assumption)) ?_
  rintro _ _ ⟨s, a2, z2, rfl, rfl, hs2, hl⟩
  ((try simp (disch := first | omega | (simp only [LN]; omega)) only [↓EC, EW, seval, ↓reduceIte, false_imp_iff, ↓EBD, bne_self_eq_false, beq_self_eq_true, Bool.and_self, Bool.not_true, Bool.not_false, srcC]); repeat (refine blkP.mk ?_; (try simp (disch := first | omega | (simp only [LN]; omega)) only [↓EC, EW, seval, ↓reduceIte, false_imp_iff, ↓EBD, bne_self_eq_false, beq_self_eq_true, Bool.and_self, Bool.not_true, Bool.not_false, srcC])))
  (refine pcm [70] rfl ?_; ((try simp (disch := first | omega | (simp only [LN]; omega)) only [↓EC, EW, seval, ↓reduceIte, false_imp_iff, ↓EBD, bne_self_eq_false, beq_self_eq_true, Bool.and_self, Bool.not_true, Bool.not_false]); repeat (refine blkP.mk ?_; (try simp (disch := first | omega | (simp only [LN]; omega)) only [↓EC, EW, seval, ↓reduceIte, false_imp_iff, ↓EBD, bne_self_eq_false, beq_self_eq_true, Bool.and_self, Bool.not_true, Bool.not_false]))); refine callM_d (c_spec_l10Draw (by assumption)) ?_; rintro _ _ ⟨n, d, _, _, rfl, rfl, hs_⟩; ((try simp (disch := first | omega | (simp only [LN]; omega)) only [↓EC, EW, seval, ↓reduceIte, false_imp_iff, ↓EBD, bne_self_eq_false, beq_self_eq_true, Bool.and_self, Bool.not_true, Bool.not_false, srcC]); repeat (refine blkP.mk ?_; (try simp (disch := first | omega | (simp only [LN]; omega)) only [↓EC, EW, seval, ↓reduceIte, false_imp_iff, ↓EBD, bne_self_eq_false, beq_self_eq_true, Bool.and_self, Bool.not_true, Bool.not_false, srcC]))))
  exact ⟨s, n, d, rfl, hl⟩
end Go.Proofs.Ytlfpiegadaiafaa.Sep
end
section
/- The next move of a set. -/
namespace Go.Proofs.Ytlfpiegadaiafaa.Sep
open Go.RowKit
set_option linter.unusedVariables false
set_option linter.unusedSimpArgs false
set_option maxRecDepth 20000
set_option maxHeartbeats 1000000

def doneF (a : Int × Int) : Prop := a.2 = 0 ∨ a.1 = 0 ∨ a.1 = a.2
instance {a : Int × Int} : Decidable (doneF a) := by unfold doneF; infer_instance
def opL : List (Int × Int) → Option (Int × Int)
  | [] => none
  | a :: r => if doneF a then opL r else some a
theorem opL_mem : ∀ {l : List (Int × Int)} {a : Int × Int}, opL l = some a → a ∈ l
  | [], a, h => by simp [opL] at h
  | b :: r, a, h => by
    simp only [opL] at h
    split at h
    · exact List.mem_cons_of_mem _ (opL_mem h)
    · simp only [Option.some.injEq] at h; subst h; exact List.mem_cons_self ..
theorem opL_drop {l : List (Int × Int)} {i : Nat} (hi : i < l.length) : opL (l.drop i) = if doneF (g2 l i) then opL (l.drop (i + 1)) else some (g2 l i) := by
  rw [drop_getD (d := (0, 0)) hi]; rfl
theorem setB_F {l : List (Int × Int)} (h : setB l = true) : ∀ a ∈ l, isF a = true := by
  intro a ha
  obtain ⟨i, hi, rfl⟩ := List.getElem_of_mem ha
  unfold setB at h
  rw [Bool.and_eq_true, decide_eq_true_eq] at h
  have := (h.1 i hi).1
  simpa [g2, List.getD, List.getElem?_eq_getElem hi] using this
theorem isF_lim {a : Int × Int} (h : isF a = true) : (-1000000000 ≤ a.1 ∧ a.1 ≤ 1000000000) ∧ (0 ≤ a.2 ∧ a.2 ≤ 1000000000) := by
  unfold isF isFr at h
  rw [decide_eq_true_eq] at h
  omega
def opV : Option (Int × Int) → V
  | none => .tup [.agg [.int .i64 0, .int .i64 0], .bool false]
  | some a => .tup [.agg [.int .i64 a.1, .int .i64 a.2], .bool true]
theorem c_impl_open {l : List (Int × Int)} (hl : l.length ≤ 1048576) : PSpec Try.prog 84 [.sl l.length (v2 .i64 l)] fun v => v = opV (opL l) := by
  refine impl_open_f.f ?_
  simp (disch := first | omega | (simp only [LN]; omega)) only [↓EC, EW, seval, ↓reduceIte, false_imp_iff, impl_open_F]
  refine LP_of (σ := Nat) 100000 [(66, 27, 1)] (fun s => [.int .i64 s]) (fun s => [[.int .i64 0, .int .i64 0]])
    (fun s => s ≤ l.length ∧ opL (l.drop s) = opL l) (fun s => l.length - s) 0 (by simp [frameOk, names, lpz, sclp, scv, scvs, vi_nrf, vb_nrf, vt_nrf, v2_nrf, v3_nrf, nrfs, nrf, sc_vi, sc_vb, sc_vt, sc_v2, sc_v3, sc_vo, sc_vl, vo_nrf, vl_nrf, sc_vn, vn_nrf]) ⟨Nat.zero_le _, rfl⟩ ?_ ?_
  · simp (disch := first | omega | (simp only [LN]; omega)) only [↓EC, EW, seval, ↓reduceIte, false_imp_iff, ColV_def]
  · rintro i ⟨h1, h2⟩
    simp (disch := first | omega | (simp only [LN]; omega)) only [↓EC, EW, seval, ↓reduceIte, false_imp_iff, ColV_def, lheap_def]
    (refine Split.mk (fun h => ?_) (fun h => ?_) <;> (try simp only [decide_eq_true_eq, decide_eq_false_iff_not, beq_iff_eq, bne_iff_ne, beq_eq_false_iff_ne, bne_eq_false_iff_eq, Bool.not_eq_true', Bool.not_eq_false', Bool.and_eq_true, Bool.or_eq_true, Bool.and_eq_false_iff, Bool.or_eq_false_iff, Int.not_lt, Int.not_le, Bool.false_eq_true, Bool.true_eq_false, false_and, and_false, true_and, and_true, or_false, false_or, or_true, true_or, not_true_eq_false, not_false_eq_true] at h))
    · have hi : i < l.length := by omega
      rw [opL_drop hi] at h2
      (try simp (disch := first | omega | (simp only [LN]; omega)) only [↓EC, EW, seval, ↓reduceIte, false_imp_iff])
      by_cases hd : doneF (g2 l i)
      · rw [if_pos hd] at h2
        unfold doneF at hd
        repeat' first
          | (refine Split.mk (fun h => ?_) (fun h => ?_) <;> (try simp only [decide_eq_true_eq, decide_eq_false_iff_not, beq_iff_eq, bne_iff_ne, beq_eq_false_iff_ne, bne_eq_false_iff_eq, Bool.not_eq_true', Bool.not_eq_false', Bool.and_eq_true, Bool.or_eq_true, Bool.and_eq_false_iff, Bool.or_eq_false_iff, Int.not_lt, Int.not_le, Bool.false_eq_true, Bool.true_eq_false, false_and, and_false, true_and, and_true, or_false, false_or, or_true, true_or, not_true_eq_false, not_false_eq_true] at h))
          | omega
        all_goals ((try simp (disch := first | omega | (simp only [LN]; omega)) only [↓EC, EW, seval, ↓reduceIte, false_imp_iff]))
        all_goals first | omega | exact ⟨i + 1, by simp, ⟨by omega, h2⟩, by omega⟩ | trace_state
      · rw [if_neg hd] at h2
        unfold doneF at hd
        repeat' first
          | (refine Split.mk (fun h => ?_) (fun h => ?_) <;> (try simp only [decide_eq_true_eq, decide_eq_false_iff_not, beq_iff_eq, bne_iff_ne, beq_eq_false_iff_ne, bne_eq_false_iff_eq, Bool.not_eq_true', Bool.not_eq_false', Bool.and_eq_true, Bool.or_eq_true, Bool.and_eq_false_iff, Bool.or_eq_false_iff, Int.not_lt, Int.not_le, Bool.false_eq_true, Bool.true_eq_false, false_and, and_false, true_and, and_true, or_false, false_or, or_true, true_or, not_true_eq_false, not_false_eq_true] at h))
          | omega
        all_goals ((try simp (disch := first | omega | (simp only [LN]; omega)) only [↓EC, EW, seval, ↓reduceIte, false_imp_iff]))
        all_goals first | omega | (rw [← h2]; rfl) | trace_state
    · rw [List.drop_of_length_le (by omega)] at h2
      (try simp (disch := first | omega | (simp only [LN]; omega)) only [↓EC, EW, seval, ↓reduceIte, false_imp_iff])
      rw [← h2]; rfl
def nmM : Option (Int × Int) → (Int × Int × Int) × Int
  | none => ((0, 0, 0), 5)
  | some a => if a.1 < 0 then ((0, 0, 0), 0) else if a.1 > a.2 then ((1, 0, 0), 0) else if isMoveB 2 a.1 (a.2 - a.1) = true then ((2, a.1, a.2 - a.1), 0) else ((0, 0, 0), 3)
def mvV (m : Int × Int × Int) : V := .agg [.int .i64 m.1, .int .i64 m.2.1, .int .i64 m.2.2]
theorem c_impl_nextMove {l : List (Int × Int)} (hl : l.length ≤ 1048576) (hF : ∀ a ∈ l, isF a = true) : PSpec Try.prog 69 [.sl l.length (v2 .i64 l)] fun v => v = .tup [mvV (nmM (opL l)).1, .int .i64 (nmM (opL l)).2] := by
  refine impl_nextMove_f.f ?_
  simp (disch := first | omega | (simp only [LN]; omega)) only [↓EC, EW, seval, ↓reduceIte, false_imp_iff, impl_nextMove_F]
  refine pcd_v (c_impl_open hl) ?_
  cases ho : opL l with
  | none =>
    (try simp (disch := first | omega | (simp only [LN]; omega)) only [↓EC, EW, seval, ↓reduceIte, false_imp_iff, opV])
    rfl
  | some a =>
    have hlim := isF_lim (hF a (opL_mem ho))
    (try simp (disch := first | omega | (simp only [LN]; omega)) only [↓EC, EW, seval, ↓reduceIte, false_imp_iff, opV])
    unfold nmM
    simp only
    (refine Split.mk (fun h => ?_) (fun h => ?_) <;> (try simp only [decide_eq_true_eq, decide_eq_false_iff_not, beq_iff_eq, bne_iff_ne, beq_eq_false_iff_ne, bne_eq_false_iff_eq, Bool.not_eq_true', Bool.not_eq_false', Bool.and_eq_true, Bool.or_eq_true, Bool.and_eq_false_iff, Bool.or_eq_false_iff, Int.not_lt, Int.not_le, Bool.false_eq_true, Bool.true_eq_false, false_and, and_false, true_and, and_true, or_false, false_or, or_true, true_or, not_true_eq_false, not_false_eq_true] at h))
    · (try simp (disch := first | omega | (simp only [LN]; omega)) only [↓EC, EW, seval, ↓reduceIte, false_imp_iff])
      rw [if_pos h]; rfl
    · rw [if_neg (by omega)]
      (try simp (disch := first | omega | (simp only [LN]; omega)) only [↓EC, EW, seval, ↓reduceIte, false_imp_iff])
      (refine Split.mk (fun h => ?_) (fun h => ?_) <;> (try simp only [decide_eq_true_eq, decide_eq_false_iff_not, beq_iff_eq, bne_iff_ne, beq_eq_false_iff_ne, bne_eq_false_iff_eq, Bool.not_eq_true', Bool.not_eq_false', Bool.and_eq_true, Bool.or_eq_true, Bool.and_eq_false_iff, Bool.or_eq_false_iff, Int.not_lt, Int.not_le, Bool.false_eq_true, Bool.true_eq_false, false_and, and_false, true_and, and_true, or_false, false_or, or_true, true_or, not_true_eq_false, not_false_eq_true] at h))
      · (try simp (disch := first | omega | (simp only [LN]; omega)) only [↓EC, EW, seval, ↓reduceIte, false_imp_iff])
        rw [if_pos h]; rfl
      · rw [if_neg (by omega)]
        (try simp (disch := first | omega | (simp only [LN]; omega)) only [↓EC, EW, seval, ↓reduceIte, false_imp_iff])
        refine pcd_v c_impl_IsMove ?_
        cases hm : isMoveB 2 a.1 (a.2 - a.1) with
        | true => (try simp (disch := first | omega | (simp only [LN]; omega)) only [↓EC, EW, seval, ↓reduceIte, false_imp_iff]); rfl
        | false => (try simp (disch := first | omega | (simp only [LN]; omega)) only [↓EC, EW, seval, ↓reduceIte, false_imp_iff]); rfl
def nxV : Option (Int × Int) → V
  | none => .tup [mvV (0, 0, 0), .bool true, .bool true]
  | some a => if a.1 < 0 then .tup [mvV (0, 0, 0), .bool true, .bool false] else if a.1 > a.2 then .tup [mvV (1, 0, 0), .bool true, .bool false] else .tup [mvV (2, a.1, a.2 - a.1), .bool (isMoveB 2 a.1 (a.2 - a.1)), .bool false]
theorem c_spec_l10Next {l : List (Int × Int)} (hl : l.length ≤ 1048576) (hF : ∀ a ∈ l, isF a = true) : PSpec Try.prog 70 [.sl l.length (v2 .i64 l)] fun v => v = nxV (opL l) := by
  refine spec_l10Next_f.f ?_
  simp (disch := first | omega | (simp only [LN]; omega)) only [↓EC, EW, seval, ↓reduceIte, false_imp_iff, spec_l10Next_F]
  refine LP_of (σ := Nat) 100000 [(66, 36, 1)] (fun s => [.int .i64 s]) (fun s => [[.int .i64 0, .int .i64 0, .int .i64 0]])
    (fun s => s ≤ l.length ∧ opL (l.drop s) = opL l) (fun s => l.length - s) 0 (by simp [frameOk, names, lpz, sclp, scv, scvs, vi_nrf, vb_nrf, vt_nrf, v2_nrf, v3_nrf, nrfs, nrf, sc_vi, sc_vb, sc_vt, sc_v2, sc_v3, sc_vo, sc_vl, vo_nrf, vl_nrf, sc_vn, vn_nrf]) ⟨Nat.zero_le _, rfl⟩ ?_ ?_
  · simp (disch := first | omega | (simp only [LN]; omega)) only [↓EC, EW, seval, ↓reduceIte, false_imp_iff, ColV_def]
  · rintro i ⟨h1, h2⟩
    simp (disch := first | omega | (simp only [LN]; omega)) only [↓EC, EW, seval, ↓reduceIte, false_imp_iff, ColV_def, lheap_def]
    (refine Split.mk (fun h => ?_) (fun h => ?_) <;> (try simp only [decide_eq_true_eq, decide_eq_false_iff_not, beq_iff_eq, bne_iff_ne, beq_eq_false_iff_ne, bne_eq_false_iff_eq, Bool.not_eq_true', Bool.not_eq_false', Bool.and_eq_true, Bool.or_eq_true, Bool.and_eq_false_iff, Bool.or_eq_false_iff, Int.not_lt, Int.not_le, Bool.false_eq_true, Bool.true_eq_false, false_and, and_false, true_and, and_true, or_false, false_or, or_true, true_or, not_true_eq_false, not_false_eq_true] at h))
    · have hi : i < l.length := by omega
      rw [opL_drop hi] at h2
      by_cases hd : doneF (g2 l i)
      · rw [if_pos hd] at h2
        unfold doneF at hd
        (try simp (disch := first | omega | (simp only [LN]; omega)) only [↓EC, EW, seval, ↓reduceIte, false_imp_iff])
        repeat' first
          | (refine Split.mk (fun h => ?_) (fun h => ?_) <;> (try simp only [decide_eq_true_eq, decide_eq_false_iff_not, beq_iff_eq, bne_iff_ne, beq_eq_false_iff_ne, bne_eq_false_iff_eq, Bool.not_eq_true', Bool.not_eq_false', Bool.and_eq_true, Bool.or_eq_true, Bool.and_eq_false_iff, Bool.or_eq_false_iff, Int.not_lt, Int.not_le, Bool.false_eq_true, Bool.true_eq_false, false_and, and_false, true_and, and_true, or_false, false_or, or_true, true_or, not_true_eq_false, not_false_eq_true] at h))
          | omega
        all_goals ((try simp (disch := first | omega | (simp only [LN]; omega)) only [↓EC, EW, seval, ↓reduceIte, false_imp_iff]))
        all_goals first | omega | exact ⟨i + 1, by simp, ⟨by omega, h2⟩, by omega⟩ | trace_state
      · rw [if_neg hd] at h2
        have hm : g2 l i ∈ l := opL_mem h2.symm
        have hlim := isF_lim (hF _ hm)
        rw [← h2]
        unfold doneF at hd
        unfold nxV
        simp only
        (try simp (disch := first | omega | (simp only [LN]; omega)) only [↓EC, EW, seval, ↓reduceIte, false_imp_iff])
        repeat' first
          | (refine Split.mk (fun h => ?_) (fun h => ?_) <;> (try simp only [decide_eq_true_eq, decide_eq_false_iff_not, beq_iff_eq, bne_iff_ne, beq_eq_false_iff_ne, bne_eq_false_iff_eq, Bool.not_eq_true', Bool.not_eq_false', Bool.and_eq_true, Bool.or_eq_true, Bool.and_eq_false_iff, Bool.or_eq_false_iff, Int.not_lt, Int.not_le, Bool.false_eq_true, Bool.true_eq_false, false_and, and_false, true_and, and_true, or_false, false_or, or_true, true_or, not_true_eq_false, not_false_eq_true] at h))
          | omega
        all_goals try ((try simp (disch := first | omega | (simp only [LN]; omega)) only [↓EC, EW, seval, ↓reduceIte, false_imp_iff]))
        all_goals first
          | omega
          | (rw [if_pos (by omega)]; rfl)
          | (rw [if_neg (by omega), if_pos (by omega)]; rfl)
          | (rw [if_neg (by omega), if_neg (by omega)]; refine pcd_v c_spec_l10Move ?_; (try simp (disch := first | omega | (simp only [LN]; omega)) only [↓EC, EW, seval, ↓reduceIte, false_imp_iff]); rfl)
          | (rw [if_neg (by omega), if_neg (by omega)]; refine pcd_v c_spec_l10Move ?_; (try simp (disch := first | omega | (simp only [LN]; omega)) only [↓EC, EW, seval, ↓reduceIte, false_imp_iff]); trace_state)
          | trace_state
    · rw [List.drop_of_length_le (by omega)] at h2
      (try simp (disch := first | omega | (simp only [LN]; omega)) only [↓EC, EW, seval, ↓reduceIte, false_imp_iff])
      rw [← h2]; rfl
def nmR (l : List (Int × Int)) : (Int × Int × Int) × Int := if setB l = true then nmM (opL l) else ((0, 0, 0), 1)
theorem c_impl_NextMove {l : List (Int × Int)} (hl : l.length ≤ 1048576) : PSpec Try.prog 32 [.sl l.length (v2 .i64 l)] fun v => v = .tup [mvV (nmR l).1, .int .i64 (nmR l).2] := by
  refine impl_NextMove_f.f ?_
  simp (disch := first | omega | (simp only [LN]; omega)) only [↓EC, EW, seval, ↓reduceIte, false_imp_iff, impl_NextMove_F]
  refine pcd_v (c_impl_IsSet hl) ?_
  cases hs : setB l with
  | false =>
    (try simp (disch := first | omega | (simp only [LN]; omega)) only [↓EC, EW, seval, ↓reduceIte, false_imp_iff])
    unfold nmR; rw [if_neg (by rw [hs]; decide)]; rfl
  | true =>
    (try simp (disch := first | omega | (simp only [LN]; omega)) only [↓EC, EW, seval, ↓reduceIte, false_imp_iff])
    refine pcd_v (c_impl_nextMove hl (setB_F hs)) ?_
    unfold nmR; rw [if_pos hs]
    generalize nmM (opL l) = R at *
    obtain ⟨⟨a, b, c⟩, k⟩ := R
    (try simp (disch := first | omega | (simp only [LN]; omega)) only [↓EC, EW, seval, ↓reduceIte, false_imp_iff, mvV])
theorem c_spec_NextMove {l : List (Int × Int)} (hl : l.length ≤ 1048576) : PSpec Try.prog 33 [.sl l.length (v2 .i64 l)] fun v => v = .tup [mvV (nmR l).1, .int .i64 (nmR l).2] := by
  refine spec_NextMove_f.f ?_
  simp (disch := first | omega | (simp only [LN]; omega)) only [↓EC, EW, seval, ↓reduceIte, false_imp_iff, spec_NextMove_F]
  refine pcd_v (c_spec_l10Set hl) ?_
  cases hs : setB l with
  | false =>
    (try simp (disch := first | omega | (simp only [LN]; omega)) only [↓EC, EW, seval, ↓reduceIte, false_imp_iff])
    unfold nmR; rw [if_neg (by rw [hs]; decide)]; rfl
  | true =>
    (try simp (disch := first | omega | (simp only [LN]; omega)) only [↓EC, EW, seval, ↓reduceIte, false_imp_iff])
    refine pcd_v (c_spec_l10Next hl (setB_F hs)) ?_
    unfold nmR; rw [if_pos hs]
    cases ho : opL l with
    | none => (try simp (disch := first | omega | (simp only [LN]; omega)) only [↓EC, EW, seval, ↓reduceIte, false_imp_iff, nxV, mvV]); rfl
    | some a =>
      unfold nxV nmM
      simp only
      by_cases k1 : a.1 < 0
      · rw [if_pos k1, if_pos k1]
        (try simp (disch := first | omega | (simp only [LN]; omega)) only [↓EC, EW, seval, ↓reduceIte, false_imp_iff, mvV])
      · rw [if_neg k1, if_neg k1]
        by_cases k2 : a.1 > a.2
        · rw [if_pos k2, if_pos k2]
          (try simp (disch := first | omega | (simp only [LN]; omega)) only [↓EC, EW, seval, ↓reduceIte, false_imp_iff, mvV])
        · rw [if_neg k2, if_neg k2]
          cases hm : isMoveB 2 a.1 (a.2 - a.1) with
          | true => (try simp (disch := first | omega | (simp only [LN]; omega)) only [↓EC, EW, seval, ↓reduceIte, false_imp_iff, mvV])
          | false => (try simp (disch := first | omega | (simp only [LN]; omega)) only [↓EC, EW, seval, ↓reduceIte, false_imp_iff, mvV])
end Go.Proofs.Ytlfpiegadaiafaa.Sep
end
section
/- The image of a set: impl.image and spec.l10Image. -/
namespace Go.Proofs.Ytlfpiegadaiafaa.Sep
open Go.RowKit
set_option linter.unusedVariables false
set_option linter.unusedSimpArgs false
set_option maxRecDepth 20000
set_option maxHeartbeats 4000000

def imV : Option (List (Int × Int)) → V
  | some r => .tup [.own 27 2 r.length (v2 .i64 r), .int .i64 0]
  | none => .tup [.nils, .int .i64 3]
def imW : Option (List (Int × Int)) → V
  | some r => .tup [.own 27 2 r.length (v2 .i64 r), .bool true]
  | none => .tup [.nils, .bool false]
theorem allF_g2 {s : List (Int × Int)} {i : Nat} (h : allF s) (hi : i < s.length) : isFr (g2 s i).1 (g2 s i).2 = true := by
  have := h (g2 s i) (mem_g2.2 ⟨i, hi, rfl⟩)
  exact this
theorem imO_len {k f l : Int} {s a : List (Int × Int)} (h : imO k f l s = some a) : a.length = s.length := by
  induction s generalizing a with
  | nil => simp only [imO, Option.some.injEq] at h; subst h; rfl
  | cons x s ih =>
    simp only [imO] at h
    cases hx : mvO k f l x.1 x.2 with
    | none => rw [hx] at h; simp at h
    | some y =>
      rw [hx] at h
      simp only [Option.bind_some] at h
      cases ht : imO k f l s with
      | none => rw [ht] at h; simp at h
      | some b => rw [ht] at h; simp only [Option.map_some, Option.some.injEq] at h; subst h; simp [ih ht]
theorem c_impl_image {k f l : Int} {s : List (Int × Int)} (hm : isMoveB k f l = true) (hs : allF s) (hl : s.length ≤ 12) :
    PSpec Try.prog 66 [.agg [.int .i64 k, .int .i64 f, .int .i64 l], .sl s.length (v2 .i64 s)] fun v => v = imV (imS k f l s) := by
  refine impl_image_f.f ?_
  simp (disch := first | omega | (simp only [LN]; omega)) only [↓EC, EW, seval, ↓reduceIte, false_imp_iff, impl_image_F]
  refine LP_ofE (σ := List (Int × Int)) [2] 100000 [(66, 36, 1)] (fun a => [.own 27 2 a.length (v2 .i64 a), .int .i64 a.length]) (fun a => [[.int .i64 k, .int .i64 f, .int .i64 l]])
    (fun a => a.length ≤ s.length ∧ imO k f l (s.take a.length) = some a) (fun a => s.length - a.length) [] (by simp [frameOk, names, lpz, sclp, scv, scvs, vi_nrf, vb_nrf, vt_nrf, v2_nrf, v3_nrf, nrfs, nrf, sc_vi, sc_vb, sc_vt, sc_v2, sc_v3, sc_vo, sc_vl, vo_nrf, vl_nrf, sc_vn, vn_nrf]) ⟨by simp, by simp [imO]⟩ ?_ ?_
  · simp (disch := first | omega | (simp only [LN]; omega)) only [↓EC, EW, seval, ↓reduceIte, false_imp_iff, ColV_def]
    exact ⟨fun _ => trivial, trivial⟩
  · rintro a ⟨h1, h2⟩
    simp (disch := first | omega | (simp only [LN]; omega)) only [↓EC, EW, seval, ↓reduceIte, false_imp_iff, ColV_def, lheap_def]
    (refine Split.mk (fun h => ?_) (fun h => ?_) <;> (try simp only [decide_eq_true_eq, decide_eq_false_iff_not, beq_iff_eq, bne_iff_ne, beq_eq_false_iff_ne, bne_eq_false_iff_eq, Bool.not_eq_true', Bool.not_eq_false', Bool.and_eq_true, Bool.or_eq_true, Bool.and_eq_false_iff, Bool.or_eq_false_iff, Int.not_lt, Int.not_le, Bool.false_eq_true, Bool.true_eq_false, false_and, and_false, true_and, and_true, or_false, false_or, or_true, true_or, not_true_eq_false, not_false_eq_true] at h))
    · have hi : a.length < s.length := by omega
      have hx := allF_g2 hs hi
      (try simp (disch := first | omega | (simp only [LN]; omega)) only [↓EC, EW, seval, ↓reduceIte, false_imp_iff])
      refine pcd_v (c_impl_move hm hx) ?_
      rcases frV_cases (mvO k f l (g2 s a.length).1 (g2 s a.length).2) with ⟨x, y, ho⟩ | ho
      · rw [ho]
        have tk : (v2 .i64 (a ++ [(x, y)])).take ((a.length + 1) * 2) = v2 .i64 (a ++ [(x, y)]) := v2_tk (by simp)
        (try simp (disch := first | omega | (simp only [LN]; omega)) only [↓EC, EW, seval, ↓reduceIte, false_imp_iff, frV, tk])
        have h3 := imO_yes hi h2 ho
        refine ⟨a ++ [(x, y)], by simp, ⟨by simp; omega, by simpa using h3⟩, by simp; omega⟩
      · rw [ho]
        (try simp (disch := first | omega | (simp only [LN]; omega)) only [↓EC, EW, seval, ↓reduceIte, false_imp_iff, frV])
        unfold imS
        rw [imO_no hi ho]
        rfl
    · have hi : a.length = s.length := by omega
      rw [hi, List.take_length] at h2
      obtain ⟨fa, la⟩ := imO_all hm hs h2
      (try simp (disch := first | omega | (simp only [LN]; omega)) only [↓EC, EW, seval, ↓reduceIte, false_imp_iff])
      refine pcm [100000] rfl ?_
      (try simp (disch := first | omega | (simp only [LN]; omega)) only [↓EC, EW, seval, ↓reduceIte, false_imp_iff])
      refine callM_q (c_SortFunc (l := a) rfl (by omega) fa) ?_
      rintro v c ⟨rfl, m, rfl, q1, q2, q3⟩
      (try simp (disch := first | omega | (simp only [LN]; omega)) only [↓EC, EW, seval, ↓reduceIte, false_imp_iff, q1])
      refine pcmr [100000] rfl ?_
      (try simp (disch := first | omega | (simp only [LN]; omega)) only [↓EC, EW, seval, ↓reduceIte, false_imp_iff, q1])
      refine callMR_q (c_Compact (l := m) q1 (by omega)) ?_
      rintro j o w c ⟨rfl, rfl, rfl, m', rfl, r1, r2⟩ b hb
      simp only [List.getElem?_cons_zero, Option.some.injEq] at hb
      subst hb
      have e := ddF_srt (l := a) (m := m) fa q2 (by rw [q1]; exact q3)
      rw [q1] at e
      rw [e] at r2 ⊢
      have hle : (srtF a).length ≤ m'.length := by
        have := (srtF_spec fa).2.2.2; omega
      have tk : (v2 .i64 m').take ((srtF a).length * 2) = v2 .i64 (srtF a) := by rw [v2_take hle, r2]
      (try simp (disch := first | omega | (simp only [LN]; omega)) only [↓EC, EW, seval, ↓reduceIte, false_imp_iff, tk])
      unfold imS
      rw [h2]
      rfl
theorem c_spec_l10Image {k f l : Int} {s : List (Int × Int)} (hm : isMoveB k f l = true) (hs : allF s) (hl : s.length ≤ 12) :
    PSpec Try.prog 68 [.agg [.int .i64 k, .int .i64 f, .int .i64 l], .sl s.length (v2 .i64 s)] fun v => v = imW (imS k f l s) := by
  refine spec_l10Image_f.f ?_
  simp (config := { maxSteps := 10000000 }) (disch := first | omega | (simp only [LN]; omega)) only [↓EC, EW, seval, ↓reduceIte, false_imp_iff, spec_l10Image_F]
  refine LP_ofE (σ := List (Int × Int)) [2] 100000 [(66, 36, 1)] (fun a => [.own 27 2 (srtF a).length (v2 .i64 (srtF a)), .int .i64 a.length]) (fun a => [[.int .i64 k, .int .i64 f, .int .i64 l]])
    (fun a => a.length ≤ s.length ∧ imO k f l (s.take a.length) = some a ∧ allF a) (fun a => s.length - a.length) [] (by simp [frameOk, names, lpz, sclp, scv, scvs, vi_nrf, vb_nrf, vt_nrf, v2_nrf, v3_nrf, nrfs, nrf, sc_vi, sc_vb, sc_vt, sc_v2, sc_v3, sc_vo, sc_vl, vo_nrf, vl_nrf, sc_vn, vn_nrf]) ⟨by simp, by simp [imO], fun a ha => absurd ha (by simp)⟩ ?_ ?_
  · simp (disch := first | omega | (simp only [LN]; omega)) only [↓EC, EW, seval, ↓reduceIte, false_imp_iff, ColV_def]
    exact ⟨fun _ => trivial, rfl⟩
  · rintro a ⟨h1, h2, fa⟩
    obtain ⟨sa, ss, smem, sl⟩ := srtF_spec fa
    simp (disch := first | omega | (simp only [LN]; omega)) only [↓EC, EW, seval, ↓reduceIte, false_imp_iff, ColV_def, lheap_def]
    (refine Split.mk (fun h => ?_) (fun h => ?_) <;> (try simp only [decide_eq_true_eq, decide_eq_false_iff_not, beq_iff_eq, bne_iff_ne, beq_eq_false_iff_ne, bne_eq_false_iff_eq, Bool.not_eq_true', Bool.not_eq_false', Bool.and_eq_true, Bool.or_eq_true, Bool.and_eq_false_iff, Bool.or_eq_false_iff, Int.not_lt, Int.not_le, Bool.false_eq_true, Bool.true_eq_false, false_and, and_false, true_and, and_true, or_false, false_or, or_true, true_or, not_true_eq_false, not_false_eq_true] at h))
    · have hi : a.length < s.length := by omega
      have hx := allF_g2 hs hi
      (try simp (disch := first | omega | (simp only [LN]; omega)) only [↓EC, EW, seval, ↓reduceIte, false_imp_iff])
      refine pcd_r (c_spec_l10At hm hx) ?_
      rintro v (⟨x, y, ho, rfl⟩ | ⟨ho, x, y, rfl⟩)
      · have h3 := imO_yes hi h2 ho
        have hy := mvO_fr hx hm ho
        (try simp (disch := first | omega | (simp only [LN]; omega)) only [↓EC, EW, seval, ↓reduceIte, false_imp_iff])
        refine LP_of (σ := Nat) 200000 [(66, 36, 1), (72, 27, 1), (100000, 27, 2)] (fun j => [.int .i64 j]) (fun j => [[.int .i64 k, .int .i64 f, .int .i64 l], [.int .i64 x, .int .i64 y], v2 .i64 (srtF a)])
          (fun j => j ≤ (srtF a).length ∧ ∀ q, q < j → cmpF (g2 (srtF a) q) (x, y) < 0) (fun j => (srtF a).length - j) 0 (by simp [frameOk, names, lpz, sclp, scv, scvs, vi_nrf, vb_nrf, vt_nrf, v2_nrf, v3_nrf, nrfs, nrf, sc_vi, sc_vb, sc_vt, sc_v2, sc_v3, sc_vo, sc_vl, vo_nrf, vl_nrf, sc_vn, vn_nrf]) ⟨by simp, fun q hq => absurd hq (Nat.not_lt_zero q)⟩ ?_ ?_
        · simp (disch := first | omega | (simp only [LN]; omega)) only [↓EC, EW, seval, ↓reduceIte, false_imp_iff, ColV_def]
        · rintro j ⟨j1, j2⟩
          have dj : (v2 .i64 (srtF a)).drop (j * 2) = v2 .i64 ((srtF a).drop j) := v2_drop j1
          have tj : (v2 .i64 (srtF a)).take (j * 2) = v2 .i64 ((srtF a).take j) := v2_take j1
          have tk : (v2 .i64 ((srtF a).drop j)).take (((srtF a).length - j) * 2) = v2 .i64 ((srtF a).drop j) := v2_tk (by rw [List.length_drop])
          have l1 : ((srtF a).drop j).length = (srtF a).length - j := List.length_drop
          have l2 : ((srtF a).take j).length = j := by rw [List.length_take]; omega
          have fy : allF (a ++ [(x, y)]) := fun z hz => by
            rcases List.mem_append.1 hz with hz | hz
            · exact fa z hz
            · simp only [List.mem_cons, List.not_mem_nil, or_false] at hz
              subst hz; exact hy
          have hJ : ((a ++ [(x, y)]).length ≤ s.length ∧ imO k f l (s.take (a ++ [(x, y)]).length) = some (a ++ [(x, y)]) ∧ allF (a ++ [(x, y)])) ∧ s.length - (a ++ [(x, y)]).length < s.length - a.length :=
            ⟨⟨by simp; omega, by simpa using h3, fy⟩, by simp; omega⟩
          have hin : (j < (srtF a).length → ¬ cmpF (g2 (srtF a) j) (x, y) < 0) → (j = (srtF a).length ∨ g2 (srtF a) j ≠ (x, y)) → srtF (a ++ [(x, y)]) = (srtF a).take j ++ (x, y) :: (srtF a).drop j := fun hn hc => by
            rw [srtF_snoc, insF_at j1 j2 hn, if_pos hc]
          have hlen : ((srtF a).take j ++ (x, y) :: (srtF a).drop j).length = j + (1 + ((srtF a).length - j)) := by
            rw [List.length_append, List.length_cons, l1, l2]; omega
          have hv : v2 .i64 ((srtF a).take j ++ (x, y) :: (srtF a).drop j) = v2 .i64 ((srtF a).take j) ++ V.int .i64 x :: V.int .i64 y :: v2 .i64 ((srtF a).drop j) := by
            rw [← v2_app]; rfl
          simp (disch := first | omega | (simp only [LN]; omega)) only [↓EC, EW, seval, ↓reduceIte, false_imp_iff, ColV_def, lheap_def]
          (refine Split.mk (fun h => ?_) (fun h => ?_) <;> (try simp only [decide_eq_true_eq, decide_eq_false_iff_not, beq_iff_eq, bne_iff_ne, beq_eq_false_iff_ne, bne_eq_false_iff_eq, Bool.not_eq_true', Bool.not_eq_false', Bool.and_eq_true, Bool.or_eq_true, Bool.and_eq_false_iff, Bool.or_eq_false_iff, Int.not_lt, Int.not_le, Bool.false_eq_true, Bool.true_eq_false, false_and, and_false, true_and, and_true, or_false, false_or, or_true, true_or, not_true_eq_false, not_false_eq_true] at h))
          · (try simp (disch := first | omega | (simp only [LN]; omega)) only [↓EC, EW, seval, ↓reduceIte, false_imp_iff])
            refine pcd_v (c_spec_l10Compare (allF_g2 sa (by omega)) hy) ?_
            have ec : cmpFr (g2 (srtF a) j).1 (g2 (srtF a) j).2 x y = cmpF (g2 (srtF a) j) (x, y) := rfl
            rw [ec]
            (try simp (disch := first | omega | (simp only [LN]; omega)) only [↓EC, EW, seval, ↓reduceIte, false_imp_iff])
            (refine Split.mk (fun h => ?_) (fun h => ?_) <;> (try simp only [decide_eq_true_eq, decide_eq_false_iff_not, beq_iff_eq, bne_iff_ne, beq_eq_false_iff_ne, bne_eq_false_iff_eq, Bool.not_eq_true', Bool.not_eq_false', Bool.and_eq_true, Bool.or_eq_true, Bool.and_eq_false_iff, Bool.or_eq_false_iff, Int.not_lt, Int.not_le, Bool.false_eq_true, Bool.true_eq_false, false_and, and_false, true_and, and_true, or_false, false_or, or_true, true_or, not_true_eq_false, not_false_eq_true] at h))
            · exact ⟨j + 1, by simp, ⟨by omega, fun q hq => by
                by_cases e : q = j
                · subst e; exact h
                · exact j2 q (by omega)⟩, by omega⟩
            · have hn : ¬ cmpF (g2 (srtF a) j) (x, y) < 0 := by omega
              (refine Split.mk (fun h => ?_) (fun h => ?_) <;> (try simp only [decide_eq_true_eq, decide_eq_false_iff_not, beq_iff_eq, bne_iff_ne, beq_eq_false_iff_ne, bne_eq_false_iff_eq, Bool.not_eq_true', Bool.not_eq_false', Bool.and_eq_true, Bool.or_eq_true, Bool.and_eq_false_iff, Bool.or_eq_false_iff, Int.not_lt, Int.not_le, Bool.false_eq_true, Bool.true_eq_false, false_and, and_false, true_and, and_true, or_false, false_or, or_true, true_or, not_true_eq_false, not_false_eq_true] at h))
              · omega
              · (try simp (disch := first | omega | (simp only [LN]; omega)) only [↓EC, EW, seval, ↓reduceIte, false_imp_iff, dj, tj, tk, l1, l2])
                (refine Split.mk (fun h => ?_) (fun h => ?_) <;> (try simp only [decide_eq_true_eq, decide_eq_false_iff_not, beq_iff_eq, bne_iff_ne, beq_eq_false_iff_ne, bne_eq_false_iff_eq, Bool.not_eq_true', Bool.not_eq_false', Bool.and_eq_true, Bool.or_eq_true, Bool.and_eq_false_iff, Bool.or_eq_false_iff, Int.not_lt, Int.not_le, Bool.false_eq_true, Bool.true_eq_false, false_and, and_false, true_and, and_true, or_false, false_or, or_true, true_or, not_true_eq_false, not_false_eq_true] at h))
                · (try simp (disch := first | omega | (simp only [LN]; omega)) only [↓EC, EW, seval, ↓reduceIte, false_imp_iff, dj, tj, tk, l1, l2])
                  refine ⟨a ++ [(x, y)], ?_, hJ⟩
                  rw [hin (fun _ => hn) (.inr (fun e => by rw [e] at h; simp at h)), hlen, hv]
                  simp
                · refine ⟨a ++ [(x, y)], ?_, hJ⟩
                  have e : srtF (a ++ [(x, y)]) = srtF a := by
                    rw [srtF_snoc, insF_at j1 j2 (fun _ => hn), if_neg]
                    rintro (h' | h')
                    · omega
                    · exact h' (Prod.ext h.1 h.2)
                  rw [e]
                  simp
          · (refine Split.mk (fun h => ?_) (fun h => ?_) <;> (try simp only [decide_eq_true_eq, decide_eq_false_iff_not, beq_iff_eq, bne_iff_ne, beq_eq_false_iff_ne, bne_eq_false_iff_eq, Bool.not_eq_true', Bool.not_eq_false', Bool.and_eq_true, Bool.or_eq_true, Bool.and_eq_false_iff, Bool.or_eq_false_iff, Int.not_lt, Int.not_le, Bool.false_eq_true, Bool.true_eq_false, false_and, and_false, true_and, and_true, or_false, false_or, or_true, true_or, not_true_eq_false, not_false_eq_true] at h))
            · (try simp (disch := first | omega | (simp only [LN]; omega)) only [↓EC, EW, seval, ↓reduceIte, false_imp_iff, dj, tj, tk, l1, l2])
              refine ⟨a ++ [(x, y)], ?_, hJ⟩
              have hj : j = (srtF a).length := by omega
              have e := hin (fun h' => by omega) (.inl hj)
              rw [e, hlen]
              rw [hj, List.take_length, List.drop_length]
              simp
            · omega
      · (try simp (disch := first | omega | (simp only [LN]; omega)) only [↓EC, EW, seval, ↓reduceIte, false_imp_iff])
        unfold imS
        rw [imO_no hi ho]
        rfl
    · have hi : a.length = s.length := by omega
      rw [hi, List.take_length] at h2
      (try simp (disch := first | omega | (simp only [LN]; omega)) only [↓EC, EW, seval, ↓reduceIte, false_imp_iff])
      unfold imS
      rw [h2]
      rfl
end Go.Proofs.Ytlfpiegadaiafaa.Sep
end
section
/- The law of ImageOfSet. -/
namespace Go.Proofs.Ytlfpiegadaiafaa.Sep
open Go.RowKit
set_option linter.unusedVariables false
set_option linter.unusedSimpArgs false
set_option maxRecDepth 20000
set_option maxHeartbeats 4000000

theorem v2_cons {k : IntKind} {a : Int × Int} {m : List (Int × Int)} : v2 k (a :: m) = .int k a.1 :: .int k a.2 :: v2 k m := rfl
theorem v2_set01 {k : IntKind} {m : List (Int × Int)} {i : Nat} {a b : Int} (h : i < m.length) : ((v2 k m).set (i * 2) (.int k a)).set (i * 2 + 1) (.int k b) = v2 k (m.set i (a, b)) := by
  induction m generalizing i with
  | nil => simp at h
  | cons x m ih =>
    cases i with
    | zero => rfl
    | succ i =>
      rw [v2_cons, List.set_cons_succ, v2_cons, ← ih (by simpa using h), Nat.add_mul]
      rfl
theorem v2_get0 {k : IntKind} {m : List (Int × Int)} {i : Nat} {d : V} (h : i < m.length) : (v2 k m).getD (i * 2) d = .int k (g2 m i).1 := by
  induction m generalizing i with
  | nil => simp at h
  | cons x m ih =>
    cases i with
    | zero => rfl
    | succ i =>
      have := ih (i := i) (by simpa using h)
      rw [v2_cons, Nat.add_mul]
      exact this
theorem v2_get1 {k : IntKind} {m : List (Int × Int)} {i : Nat} {d : V} (h : i < m.length) : (v2 k m).getD (i * 2 + 1) d = .int k (g2 m i).2 := by
  induction m generalizing i with
  | nil => simp at h
  | cons x m ih =>
    cases i with
    | zero => rfl
    | succ i =>
      have := ih (i := i) (by simpa using h)
      rw [v2_cons, Nat.add_mul]
      exact this
def iot2 (k : Int) (n : Nat) : List (Int × Int) := (List.range n).map fun j : Nat => (k + 2 * j, k + 2 * j + 1)
theorem iot2_len {k : Int} {n : Nat} : (iot2 k n).length = n := by simp [iot2]
theorem iot2_at {k : Int} {n j : Nat} (h : j < n) : g2 (iot2 k n) j = (k + 2 * j, k + 2 * j + 1) := by
  rw [g2_of (by rw [iot2_len]; exact h)]; simp [iot2]
/-! ### ImageOfSet -/
theorem setB_iff {l : List (Int × Int)} (h : setB l = true) : allF l ∧ l.length ≤ 12 := by
  unfold setB at h
  simp only [Bool.and_eq_true, decide_eq_true_eq] at h
  refine ⟨fun a ha => ?_, h.2⟩
  obtain ⟨j, hj, rfl⟩ := mem_g2.1 ha
  exact (h.1 j hj).1
def ioR (k f l : Int) (s : List (Int × Int)) : Option (List (Int × Int)) × Int :=
  if isMoveB k f l = true ∧ setB s = true then (match imS k f l s with | some r => (some r, 0) | none => (none, 3)) else (none, 1)
def ioV : Option (List (Int × Int)) × Int → V
  | (some r, c) => .tup [.own 27 2 r.length (v2 .i64 r), .int .i64 c]
  | (none, c) => .tup [.nils, .int .i64 c]
theorem ioR_cases (k f l : Int) (s : List (Int × Int)) : (∃ r, ioR k f l s = (some r, 0) ∧ r.length ≤ 12) ∨ ∃ c, ioR k f l s = (none, c) := by
  unfold ioR
  split
  · rename_i h
    obtain ⟨h1, h2⟩ := setB_iff h.2
    cases hi : imS k f l s with
    | none => exact .inr ⟨3, rfl⟩
    | some r =>
      refine .inl ⟨r, rfl, ?_⟩
      unfold imS at hi
      cases ho : imO k f l s with
      | none => rw [ho] at hi; simp at hi
      | some a =>
        rw [ho] at hi
        simp only [Option.map_some, Option.some.injEq] at hi
        obtain ⟨fa, la⟩ := imO_all h.1 h1 ho
        have := (srtF_spec fa).2.2.2
        rw [hi] at this
        omega
  · exact .inr ⟨1, rfl⟩
theorem c_impl_ImageOfSet {k f l : Int} {s : List (Int × Int)} (hl : s.length ≤ 1048576) : PSpec Try.prog 26 [.agg [.int .i64 k, .int .i64 f, .int .i64 l], .sl s.length (v2 .i64 s)] fun v => v = ioV (ioR k f l s) := by
  refine impl_ImageOfSet_f.f ?_
  simp (disch := first | omega | (simp only [LN]; omega)) only [↓EC, EW, seval, ↓reduceIte, false_imp_iff, impl_ImageOfSet_F]
  (refine pcd_v (c_impl_IsMove) ?_; (try simp (disch := first | omega | (simp only [LN]; omega)) only [↓EC, EW, seval, ↓reduceIte, false_imp_iff]))
  (refine Split.mk (fun h => ?_) (fun h => ?_) <;> (try simp only [decide_eq_true_eq, decide_eq_false_iff_not, beq_iff_eq, bne_iff_ne, beq_eq_false_iff_ne, bne_eq_false_iff_eq, Bool.not_eq_true', Bool.not_eq_false', Bool.and_eq_true, Bool.or_eq_true, Bool.and_eq_false_iff, Bool.or_eq_false_iff, Int.not_lt, Int.not_le, Bool.false_eq_true, Bool.true_eq_false, false_and, and_false, true_and, and_true, or_false, false_or, or_true, true_or, not_true_eq_false, not_false_eq_true] at h))
  · unfold ioR; rw [if_neg (by simp_all)]; rfl
  · (try simp (disch := first | omega | (simp only [LN]; omega)) only [↓EC, EW, seval, ↓reduceIte, false_imp_iff])
    (refine pcd_v (c_impl_IsSet hl) ?_; (try simp (disch := first | omega | (simp only [LN]; omega)) only [↓EC, EW, seval, ↓reduceIte, false_imp_iff]))
    (refine Split.mk (fun h => ?_) (fun h => ?_) <;> (try simp only [decide_eq_true_eq, decide_eq_false_iff_not, beq_iff_eq, bne_iff_ne, beq_eq_false_iff_ne, bne_eq_false_iff_eq, Bool.not_eq_true', Bool.not_eq_false', Bool.and_eq_true, Bool.or_eq_true, Bool.and_eq_false_iff, Bool.or_eq_false_iff, Int.not_lt, Int.not_le, Bool.false_eq_true, Bool.true_eq_false, false_and, and_false, true_and, and_true, or_false, false_or, or_true, true_or, not_true_eq_false, not_false_eq_true] at h))
    · unfold ioR; rw [if_neg (by simp_all)]; rfl
    · have hm : isMoveB k f l = true := by assumption
      have hs : setB s = true := by assumption
      obtain ⟨h1, h2⟩ := setB_iff hs
      (try simp (disch := first | omega | (simp only [LN]; omega)) only [↓EC, EW, seval, ↓reduceIte, false_imp_iff])
      have hc := c_impl_image hm h1 h2
      unfold ioR
      rw [if_pos ⟨hm, hs⟩]
      generalize imS k f l s = o at *
      cases o with
      | none => refine pcd_v hc ?_; (try simp (disch := first | omega | (simp only [LN]; omega)) only [↓EC, EW, seval, ↓reduceIte, false_imp_iff, imV, ioV])
      | some r =>
        unfold imV at hc
        simp only at hc
        refine pcd_o hc ?_; (try simp (disch := first | omega | (simp only [LN]; omega)) only [↓EC, EW, seval, ↓reduceIte, false_imp_iff, ioV])
theorem c_spec_ImageOfSet {k f l : Int} {s : List (Int × Int)} (hl : s.length ≤ 1048576) : PSpec Try.prog 27 [.agg [.int .i64 k, .int .i64 f, .int .i64 l], .sl s.length (v2 .i64 s)] fun v => v = ioV (ioR k f l s) := by
  refine spec_ImageOfSet_f.f ?_
  simp (disch := first | omega | (simp only [LN]; omega)) only [↓EC, EW, seval, ↓reduceIte, false_imp_iff, spec_ImageOfSet_F]
  (refine pcd_v (c_spec_l10Move) ?_; (try simp (disch := first | omega | (simp only [LN]; omega)) only [↓EC, EW, seval, ↓reduceIte, false_imp_iff]))
  (refine Split.mk (fun h => ?_) (fun h => ?_) <;> (try simp only [decide_eq_true_eq, decide_eq_false_iff_not, beq_iff_eq, bne_iff_ne, beq_eq_false_iff_ne, bne_eq_false_iff_eq, Bool.not_eq_true', Bool.not_eq_false', Bool.and_eq_true, Bool.or_eq_true, Bool.and_eq_false_iff, Bool.or_eq_false_iff, Int.not_lt, Int.not_le, Bool.false_eq_true, Bool.true_eq_false, false_and, and_false, true_and, and_true, or_false, false_or, or_true, true_or, not_true_eq_false, not_false_eq_true] at h))
  · unfold ioR; rw [if_neg (by simp_all)]; rfl
  · (try simp (disch := first | omega | (simp only [LN]; omega)) only [↓EC, EW, seval, ↓reduceIte, false_imp_iff])
    (refine pcd_v (c_spec_l10Set hl) ?_; (try simp (disch := first | omega | (simp only [LN]; omega)) only [↓EC, EW, seval, ↓reduceIte, false_imp_iff]))
    (refine Split.mk (fun h => ?_) (fun h => ?_) <;> (try simp only [decide_eq_true_eq, decide_eq_false_iff_not, beq_iff_eq, bne_iff_ne, beq_eq_false_iff_ne, bne_eq_false_iff_eq, Bool.not_eq_true', Bool.not_eq_false', Bool.and_eq_true, Bool.or_eq_true, Bool.and_eq_false_iff, Bool.or_eq_false_iff, Int.not_lt, Int.not_le, Bool.false_eq_true, Bool.true_eq_false, false_and, and_false, true_and, and_true, or_false, false_or, or_true, true_or, not_true_eq_false, not_false_eq_true] at h))
    · unfold ioR; rw [if_neg (by simp_all)]; rfl
    · have hm : isMoveB k f l = true := by assumption
      have hs : setB s = true := by assumption
      obtain ⟨h1, h2⟩ := setB_iff hs
      (try simp (disch := first | omega | (simp only [LN]; omega)) only [↓EC, EW, seval, ↓reduceIte, false_imp_iff])
      have hc := c_spec_l10Image hm h1 h2
      unfold ioR
      rw [if_pos ⟨hm, hs⟩]
      generalize imS k f l s = o at *
      cases o with
      | none => refine pcd_v hc ?_; (try simp (disch := first | omega | (simp only [LN]; omega)) only [↓EC, EW, seval, ↓reduceIte, false_imp_iff, imW, ioV])
      | some r =>
        unfold imW at hc
        simp only at hc
        refine pcd_o hc ?_; (try simp (disch := first | omega | (simp only [LN]; omega)) only [↓EC, EW, seval, ↓reduceIte, false_imp_iff, ioV])
end Go.Proofs.Ytlfpiegadaiafaa.Sep
end
section
/- The chain of a set. -/
namespace Go.Proofs.Ytlfpiegadaiafaa.Sep
open Go.RowKit
set_option linter.unusedVariables false
set_option linter.unusedSimpArgs false
set_option maxRecDepth 20000
set_option maxHeartbeats 4000000

/-! ### Marks of moves -/
theorem v3_cons {k : IntKind} {a : Int × Int × Int} {m : List (Int × Int × Int)} : v3 k (a :: m) = .int k a.1 :: .int k a.2.1 :: .int k a.2.2 :: v3 k m := rfl
theorem v3_set012 {k : IntKind} {m : List (Int × Int × Int)} {i : Nat} {a b c : Int} (h : i < m.length) : (((v3 k m).set (i * 3) (.int k a)).set (i * 3 + 1) (.int k b)).set (i * 3 + 2) (.int k c) = v3 k (m.set i (a, b, c)) := by
  induction m generalizing i with
  | nil => simp at h
  | cons x m ih =>
    cases i with
    | zero => rfl
    | succ i =>
      rw [v3_cons, List.set_cons_succ, v3_cons, ← ih (by simpa using h), Nat.add_mul]
      rfl
theorem v3_get0 {k : IntKind} {m : List (Int × Int × Int)} {i : Nat} {d : V} (h : i < m.length) : (v3 k m).getD (i * 3) d = .int k (g3 m i).1 := by
  induction m generalizing i with
  | nil => simp at h
  | cons x m ih =>
    cases i with
    | zero => rfl
    | succ i =>
      have := ih (i := i) (by simpa using h)
      rw [v3_cons, Nat.add_mul]
      exact this
theorem v3_get1 {k : IntKind} {m : List (Int × Int × Int)} {i : Nat} {d : V} (h : i < m.length) : (v3 k m).getD (i * 3 + 1) d = .int k (g3 m i).2.1 := by
  induction m generalizing i with
  | nil => simp at h
  | cons x m ih =>
    cases i with
    | zero => rfl
    | succ i =>
      have := ih (i := i) (by simpa using h)
      rw [v3_cons, Nat.add_mul]
      exact this
theorem v3_get2 {k : IntKind} {m : List (Int × Int × Int)} {i : Nat} {d : V} (h : i < m.length) : (v3 k m).getD (i * 3 + 2) d = .int k (g3 m i).2.2 := by
  induction m generalizing i with
  | nil => simp at h
  | cons x m ih =>
    cases i with
    | zero => rfl
    | succ i =>
      have := ih (i := i) (by simpa using h)
      rw [v3_cons, Nat.add_mul]
      exact this
theorem g3_of {l : List (Int × Int × Int)} {i : Nat} (hi : i < l.length) : g3 l i = l[i] := by simp [g3, List.getD, hi]
def iot3 (k : Int) (n : Nat) : List (Int × Int × Int) := (List.range n).map fun j : Nat => (k + 3 * j, k + 3 * j + 1, k + 3 * j + 1 + 1)
theorem iot3_len {k : Int} {n : Nat} : (iot3 k n).length = n := by simp [iot3]
theorem iot3_at {k : Int} {n j : Nat} (h : j < n) : g3 (iot3 k n) j = (k + 3 * j, k + 3 * j + 1, k + 3 * j + 1 + 1) := by
  rw [g3_of (by rw [iot3_len]; exact h)]; simp [iot3]
/-! ### Chains -/
def chF : Nat → List (Int × Int × Int) → List (Int × Int) → Option (List (Int × Int × Int))
  | 0, out, s => if (nmM (opL s)).2 = 5 then some out else none
  | n + 1, out, s => if (nmM (opL s)).2 = 5 then some out else if (nmM (opL s)).2 = 0 then (imS (nmM (opL s)).1.1 (nmM (opL s)).1.2.1 (nmM (opL s)).1.2.2 s).bind fun t => chF n (out ++ [(nmM (opL s)).1]) t else none
theorem nx_cases (o : Option (Int × Int)) : (nmM o = ((0, 0, 0), 5) ∧ nxV o = .tup [mvV (0, 0, 0), .bool true, .bool true]) ∨
    (∃ a b c, nmM o = ((a, b, c), 0) ∧ isMoveB a b c = true ∧ nxV o = .tup [mvV (a, b, c), .bool true, .bool false]) ∨
    (nmM o = ((0, 0, 0), 3) ∧ ∃ a b c, nxV o = .tup [mvV (a, b, c), .bool false, .bool false]) := by
  cases o with
  | none => exact .inl ⟨rfl, rfl⟩
  | some a =>
    right
    unfold nmM nxV
    simp only
    by_cases h1 : a.1 < 0
    · rw [if_pos h1, if_pos h1]; exact .inl ⟨0, 0, 0, rfl, by decide, rfl⟩
    · rw [if_neg h1, if_neg h1]
      by_cases h2 : a.1 > a.2
      · rw [if_pos h2, if_pos h2]; exact .inl ⟨1, 0, 0, rfl, by decide, rfl⟩
      · rw [if_neg h2, if_neg h2]
        cases hm : isMoveB 2 a.1 (a.2 - a.1) with
        | true => exact .inl ⟨2, a.1, a.2 - a.1, by rw [if_pos rfl], hm, rfl⟩
        | false => exact .inr ⟨by rw [if_neg (by simp)], 2, a.1, a.2 - a.1, rfl⟩
theorem imS_all {k f l : Int} {s r : List (Int × Int)} (hm : isMoveB k f l = true) (hs : allF s) (h : imS k f l s = some r) : allF r ∧ r.length ≤ s.length := by
  unfold imS at h
  cases ho : imO k f l s with
  | none => rw [ho] at h; simp at h
  | some a =>
    rw [ho] at h
    simp only [Option.map_some, Option.some.injEq] at h
    obtain ⟨fa, la⟩ := imO_all hm hs ho
    obtain ⟨q1, q2, q3, q4⟩ := srtF_spec fa
    rw [h] at q1 q4
    exact ⟨q1, by omega⟩
def lsV : Bool → List (Int × Int) → V
  | false, s => .sl s.length (v2 .i64 s)
  | true, s => .own 27 2 s.length (v2 .i64 s)
def chV : Option (List (Int × Int × Int)) → Int → V
  | some r, _ => .tup [.own 36 3 r.length (v3 .i64 r), .int .i64 0]
  | none, c => .tup [.nils, .int .i64 c]
def chW : Option (List (Int × Int × Int)) → V
  | some r => .tup [.own 36 3 r.length (v3 .i64 r), .bool true]
  | none => .tup [.nils, .bool false]
theorem lsV_f {s : List (Int × Int)} : lsV false s = .sl s.length (v2 .i64 s) := rfl
theorem lsV_t {s : List (Int × Int)} : lsV true s = .own 27 2 s.length (v2 .i64 s) := rfl
theorem chF_done {n : Nat} {out : List (Int × Int × Int)} {s : List (Int × Int)} (h : (nmM (opL s)).2 = 5) : chF n out s = some out := by
  cases n <;> simp [chF, h]
theorem chF_lim {n : Nat} {out : List (Int × Int × Int)} {s : List (Int × Int)} (h : (nmM (opL s)).2 = 3) : chF n out s = none := by
  cases n <;> simp [chF, h]
theorem chF_full {out : List (Int × Int × Int)} {s : List (Int × Int)} (h : (nmM (opL s)).2 = 0) : chF 0 out s = none := by simp [chF, h]
theorem chF_step {n : Nat} {out : List (Int × Int × Int)} {s : List (Int × Int)} {a b c : Int} (h : nmM (opL s) = ((a, b, c), 0)) : chF (n + 1) out s = (imS a b c s).bind fun t => chF n (out ++ [(a, b, c)]) t := by
  simp [chF, h]
theorem c_spec_l10Chain {s : List (Int × Int)} (hs : allF s) (hl : s.length ≤ 12) : PSpec Try.prog 71 [.sl s.length (v2 .i64 s)] fun v => v = chW (chF 20 [] s) := by
  refine spec_l10Chain_f.f ?_
  simp (disch := first | omega | (simp only [LN]; omega)) only [↓EC, EW, seval, ↓reduceIte, false_imp_iff, spec_l10Chain_F]
  refine LP_ofE (σ := Bool × List (Int × Int × Int) × List (Int × Int)) [2, 3] 100000 [] (fun t => [lsV t.1 t.2.2, .own 36 3 t.2.1.length (v3 .i64 t.2.1)]) (fun t => [])
    (fun t => allF t.2.2 ∧ t.2.2.length ≤ 12 ∧ t.2.1.length ≤ 20 ∧ chF (20 - t.2.1.length) t.2.1 t.2.2 = chF 20 [] s) (fun t => 20 - t.2.1.length) (false, [], s) (by simp [frameOk, names, lpz, sclp, scv, scvs, vi_nrf, vb_nrf, vt_nrf, v2_nrf, v3_nrf, nrfs, nrf, sc_vi, sc_vb, sc_vt, sc_v2, sc_v3, sc_vo, sc_vl, vo_nrf, vl_nrf, sc_vn, vn_nrf]) ⟨hs, hl, by simp, rfl⟩ ?_ ?_
  · simp (disch := first | omega | (simp only [LN]; omega)) only [↓EC, EW, seval, ↓reduceIte, false_imp_iff, ColV_def, lsV_f]
    exact ⟨fun _ => trivial, rfl⟩
  · rintro ⟨b, out, t⟩ ⟨h1, h2, h3, h4⟩
    simp only at h1 h2 h3 h4
    cases b
    case false =>
      simp (disch := first | omega | (simp only [LN]; omega)) only [↓EC, EW, seval, ↓reduceIte, false_imp_iff, ColV_def, lheap_def, lsV_f]
      refine pcd_v (c_spec_l10Next (by omega) h1) ?_
      rcases nx_cases (opL t) with ⟨q1, q2⟩ | ⟨a, b, c, q1, q3, q2⟩ | ⟨q1, a, b, c, q2⟩
      · rw [q2]
        (try simp (disch := first | omega | (simp only [LN]; omega)) only [↓EC, EW, seval, ↓reduceIte, false_imp_iff, mvV])
        rw [← h4, chF_done (by rw [q1])]
        rfl
      · rw [q2]
        (try simp (disch := first | omega | (simp only [LN]; omega)) only [↓EC, EW, seval, ↓reduceIte, false_imp_iff, mvV])
        (refine Split.mk (fun h => ?_) (fun h => ?_) <;> (try simp only [decide_eq_true_eq, decide_eq_false_iff_not, beq_iff_eq, bne_iff_ne, beq_eq_false_iff_ne, bne_eq_false_iff_eq, Bool.not_eq_true', Bool.not_eq_false', Bool.and_eq_true, Bool.or_eq_true, Bool.and_eq_false_iff, Bool.or_eq_false_iff, Int.not_lt, Int.not_le, Bool.false_eq_true, Bool.true_eq_false, false_and, and_false, true_and, and_true, or_false, false_or, or_true, true_or, not_true_eq_false, not_false_eq_true] at h))
        · have e : 20 - out.length = 0 := by omega
          rw [← h4, e, chF_full (by rw [q1])]
          rfl
        · obtain ⟨n, hn⟩ : ∃ n, 20 - out.length = n + 1 := ⟨19 - out.length, by omega⟩
          rw [hn, chF_step q1] at h4
          have hc := c_spec_l10Image q3 h1 h2
          generalize hr : imS a b c t = o at *
          cases o with
          | none =>
            unfold imW at hc
            simp only at hc
            refine pcd_v hc ?_
            (try simp (disch := first | omega | (simp only [LN]; omega)) only [↓EC, EW, seval, ↓reduceIte, false_imp_iff])
            rw [← h4]
            rfl
          | some r =>
            obtain ⟨r1, r2⟩ := imS_all q3 h1 hr
            have tk : (v3 .i64 (out ++ [(a, b, c)])).take ((out.length + 1) * 3) = v3 .i64 (out ++ [(a, b, c)]) := v3_tk (by simp)
            unfold imW at hc
            simp only at hc
            refine pcd_o hc ?_
            (try simp (disch := first | omega | (simp only [LN]; omega)) only [↓EC, EW, seval, ↓reduceIte, false_imp_iff, tk])
            exact ⟨(true, out ++ [(a, b, c)], r), by simp [lsV], ⟨r1, by simp only; omega, by simp; omega, by
              rw [← h4]
              have e : 20 - (out ++ [(a, b, c)]).length = n := by simp; omega
              simp only [e]
              rfl⟩, by simp; omega⟩
      · rw [q2]
        (try simp (disch := first | omega | (simp only [LN]; omega)) only [↓EC, EW, seval, ↓reduceIte, false_imp_iff, mvV])
        rw [← h4, chF_lim (by rw [q1])]
        rfl
    case true =>
      simp (disch := first | omega | (simp only [LN]; omega)) only [↓EC, EW, seval, ↓reduceIte, false_imp_iff, ColV_def, lheap_def, lsV_t]
      refine pcd_v (c_spec_l10Next (by omega) h1) ?_
      rcases nx_cases (opL t) with ⟨q1, q2⟩ | ⟨a, b, c, q1, q3, q2⟩ | ⟨q1, a, b, c, q2⟩
      · rw [q2]
        (try simp (disch := first | omega | (simp only [LN]; omega)) only [↓EC, EW, seval, ↓reduceIte, false_imp_iff, mvV])
        rw [← h4, chF_done (by rw [q1])]
        rfl
      · rw [q2]
        (try simp (disch := first | omega | (simp only [LN]; omega)) only [↓EC, EW, seval, ↓reduceIte, false_imp_iff, mvV])
        (refine Split.mk (fun h => ?_) (fun h => ?_) <;> (try simp only [decide_eq_true_eq, decide_eq_false_iff_not, beq_iff_eq, bne_iff_ne, beq_eq_false_iff_ne, bne_eq_false_iff_eq, Bool.not_eq_true', Bool.not_eq_false', Bool.and_eq_true, Bool.or_eq_true, Bool.and_eq_false_iff, Bool.or_eq_false_iff, Int.not_lt, Int.not_le, Bool.false_eq_true, Bool.true_eq_false, false_and, and_false, true_and, and_true, or_false, false_or, or_true, true_or, not_true_eq_false, not_false_eq_true] at h))
        · have e : 20 - out.length = 0 := by omega
          rw [← h4, e, chF_full (by rw [q1])]
          rfl
        · obtain ⟨n, hn⟩ : ∃ n, 20 - out.length = n + 1 := ⟨19 - out.length, by omega⟩
          rw [hn, chF_step q1] at h4
          have hc := c_spec_l10Image q3 h1 h2
          generalize hr : imS a b c t = o at *
          cases o with
          | none =>
            unfold imW at hc
            simp only at hc
            refine pcd_v hc ?_
            (try simp (disch := first | omega | (simp only [LN]; omega)) only [↓EC, EW, seval, ↓reduceIte, false_imp_iff])
            rw [← h4]
            rfl
          | some r =>
            obtain ⟨r1, r2⟩ := imS_all q3 h1 hr
            have tk : (v3 .i64 (out ++ [(a, b, c)])).take ((out.length + 1) * 3) = v3 .i64 (out ++ [(a, b, c)]) := v3_tk (by simp)
            unfold imW at hc
            simp only at hc
            refine pcd_o hc ?_
            (try simp (disch := first | omega | (simp only [LN]; omega)) only [↓EC, EW, seval, ↓reduceIte, false_imp_iff, tk])
            exact ⟨(true, out ++ [(a, b, c)], r), by simp [lsV], ⟨r1, by simp only; omega, by simp; omega, by
              rw [← h4]
              have e : 20 - (out ++ [(a, b, c)]).length = n := by simp; omega
              simp only [e]
              rfl⟩, by simp; omega⟩
      · rw [q2]
        (try simp (disch := first | omega | (simp only [LN]; omega)) only [↓EC, EW, seval, ↓reduceIte, false_imp_iff, mvV])
        rw [← h4, chF_lim (by rw [q1])]
        rfl
theorem c_impl_ChainOfSet_ok {s : List (Int × Int)} (hB : setB s = true) (hs : allF s) (hl : s.length ≤ 12) : PSpec Try.prog 35 [.sl s.length (v2 .i64 s)] fun v => v = chV (chF 20 [] s) 3 := by
  refine impl_ChainOfSet_f.f ?_
  simp (disch := first | omega | (simp only [LN]; omega)) only [↓EC, EW, seval, ↓reduceIte, false_imp_iff, impl_ChainOfSet_F]
  refine pcd_v (c_impl_IsSet (by omega)) ?_
  rw [hB]
  (try simp (disch := first | omega | (simp only [LN]; omega)) only [↓EC, EW, seval, ↓reduceIte, false_imp_iff])
  refine LP_ofE (σ := Bool × List (Int × Int × Int) × List (Int × Int)) [2, 3] 100000 [] (fun t => [lsV t.1 t.2.2, .own 36 3 t.2.1.length (v3 .i64 t.2.1)]) (fun t => [])
    (fun t => allF t.2.2 ∧ t.2.2.length ≤ 12 ∧ t.2.1.length ≤ 20 ∧ chF (20 - t.2.1.length) t.2.1 t.2.2 = chF 20 [] s) (fun t => 20 - t.2.1.length) (false, [], s) (by simp [frameOk, names, lpz, sclp, scv, scvs, vi_nrf, vb_nrf, vt_nrf, v2_nrf, v3_nrf, nrfs, nrf, sc_vi, sc_vb, sc_vt, sc_v2, sc_v3, sc_vo, sc_vl, vo_nrf, vl_nrf, sc_vn, vn_nrf]) ⟨hs, hl, by simp, rfl⟩ ?_ ?_
  · simp (disch := first | omega | (simp only [LN]; omega)) only [↓EC, EW, seval, ↓reduceIte, false_imp_iff, ColV_def, lsV_f]
    exact ⟨fun _ => trivial, rfl⟩
  · rintro ⟨b, out, t⟩ ⟨h1, h2, h3, h4⟩
    simp only at h1 h2 h3 h4
    cases b
    case false =>
      simp (disch := first | omega | (simp only [LN]; omega)) only [↓EC, EW, seval, ↓reduceIte, false_imp_iff, ColV_def, lheap_def, lsV_f]
      refine pcd_v (c_impl_nextMove (by omega) h1) ?_
      rcases nx_cases (opL t) with ⟨q1, q2⟩ | ⟨a, b, c, q1, q3, q2⟩ | ⟨q1, _, _, _, q2⟩
      · rw [q1]
        (try simp (disch := first | omega | (simp only [LN]; omega)) only [↓EC, EW, seval, ↓reduceIte, false_imp_iff, mvV])
        rw [← h4, chF_done (by rw [q1])]
        rfl
      · rw [q1]
        (try simp (disch := first | omega | (simp only [LN]; omega)) only [↓EC, EW, seval, ↓reduceIte, false_imp_iff, mvV])
        (refine Split.mk (fun h => ?_) (fun h => ?_) <;> (try simp only [decide_eq_true_eq, decide_eq_false_iff_not, beq_iff_eq, bne_iff_ne, beq_eq_false_iff_ne, bne_eq_false_iff_eq, Bool.not_eq_true', Bool.not_eq_false', Bool.and_eq_true, Bool.or_eq_true, Bool.and_eq_false_iff, Bool.or_eq_false_iff, Int.not_lt, Int.not_le, Bool.false_eq_true, Bool.true_eq_false, false_and, and_false, true_and, and_true, or_false, false_or, or_true, true_or, not_true_eq_false, not_false_eq_true] at h))
        · have e : 20 - out.length = 0 := by omega
          rw [← h4, e, chF_full (by rw [q1])]
          rfl
        · obtain ⟨n, hn⟩ : ∃ n, 20 - out.length = n + 1 := ⟨19 - out.length, by omega⟩
          rw [hn, chF_step q1] at h4
          have hc := c_impl_image q3 h1 h2
          generalize hr : imS a b c t = o at *
          cases o with
          | none =>
            unfold imV at hc
            simp only at hc
            refine pcd_v hc ?_
            (try simp (disch := first | omega | (simp only [LN]; omega)) only [↓EC, EW, seval, ↓reduceIte, false_imp_iff])
            rw [← h4]
            rfl
          | some r =>
            obtain ⟨r1, r2⟩ := imS_all q3 h1 hr
            have tk : (v3 .i64 (out ++ [(a, b, c)])).take ((out.length + 1) * 3) = v3 .i64 (out ++ [(a, b, c)]) := v3_tk (by simp)
            unfold imV at hc
            simp only at hc
            refine pcd_o hc ?_
            (try simp (disch := first | omega | (simp only [LN]; omega)) only [↓EC, EW, seval, ↓reduceIte, false_imp_iff, tk])
            exact ⟨(true, out ++ [(a, b, c)], r), by simp [lsV], ⟨r1, by simp only; omega, by simp; omega, by
              rw [← h4]
              have e : 20 - (out ++ [(a, b, c)]).length = n := by simp; omega
              simp only [e]
              rfl⟩, by simp; omega⟩
      · rw [q1]
        (try simp (disch := first | omega | (simp only [LN]; omega)) only [↓EC, EW, seval, ↓reduceIte, false_imp_iff, mvV])
        rw [← h4, chF_lim (by rw [q1])]
        rfl
    case true =>
      simp (disch := first | omega | (simp only [LN]; omega)) only [↓EC, EW, seval, ↓reduceIte, false_imp_iff, ColV_def, lheap_def, lsV_t]
      refine pcd_v (c_impl_nextMove (by omega) h1) ?_
      rcases nx_cases (opL t) with ⟨q1, q2⟩ | ⟨a, b, c, q1, q3, q2⟩ | ⟨q1, _, _, _, q2⟩
      · rw [q1]
        (try simp (disch := first | omega | (simp only [LN]; omega)) only [↓EC, EW, seval, ↓reduceIte, false_imp_iff, mvV])
        rw [← h4, chF_done (by rw [q1])]
        rfl
      · rw [q1]
        (try simp (disch := first | omega | (simp only [LN]; omega)) only [↓EC, EW, seval, ↓reduceIte, false_imp_iff, mvV])
        (refine Split.mk (fun h => ?_) (fun h => ?_) <;> (try simp only [decide_eq_true_eq, decide_eq_false_iff_not, beq_iff_eq, bne_iff_ne, beq_eq_false_iff_ne, bne_eq_false_iff_eq, Bool.not_eq_true', Bool.not_eq_false', Bool.and_eq_true, Bool.or_eq_true, Bool.and_eq_false_iff, Bool.or_eq_false_iff, Int.not_lt, Int.not_le, Bool.false_eq_true, Bool.true_eq_false, false_and, and_false, true_and, and_true, or_false, false_or, or_true, true_or, not_true_eq_false, not_false_eq_true] at h))
        · have e : 20 - out.length = 0 := by omega
          rw [← h4, e, chF_full (by rw [q1])]
          rfl
        · obtain ⟨n, hn⟩ : ∃ n, 20 - out.length = n + 1 := ⟨19 - out.length, by omega⟩
          rw [hn, chF_step q1] at h4
          have hc := c_impl_image q3 h1 h2
          generalize hr : imS a b c t = o at *
          cases o with
          | none =>
            unfold imV at hc
            simp only at hc
            refine pcd_v hc ?_
            (try simp (disch := first | omega | (simp only [LN]; omega)) only [↓EC, EW, seval, ↓reduceIte, false_imp_iff])
            rw [← h4]
            rfl
          | some r =>
            obtain ⟨r1, r2⟩ := imS_all q3 h1 hr
            have tk : (v3 .i64 (out ++ [(a, b, c)])).take ((out.length + 1) * 3) = v3 .i64 (out ++ [(a, b, c)]) := v3_tk (by simp)
            unfold imV at hc
            simp only at hc
            refine pcd_o hc ?_
            (try simp (disch := first | omega | (simp only [LN]; omega)) only [↓EC, EW, seval, ↓reduceIte, false_imp_iff, tk])
            exact ⟨(true, out ++ [(a, b, c)], r), by simp [lsV], ⟨r1, by simp only; omega, by simp; omega, by
              rw [← h4]
              have e : 20 - (out ++ [(a, b, c)]).length = n := by simp; omega
              simp only [e]
              rfl⟩, by simp; omega⟩
      · rw [q1]
        (try simp (disch := first | omega | (simp only [LN]; omega)) only [↓EC, EW, seval, ↓reduceIte, false_imp_iff, mvV])
        rw [← h4, chF_lim (by rw [q1])]
        rfl
end Go.Proofs.Ytlfpiegadaiafaa.Sep
end
section
/- The law of ChainOfSet. -/
namespace Go.Proofs.Ytlfpiegadaiafaa.Sep
open Go.RowKit
set_option linter.unusedVariables false
set_option linter.unusedSimpArgs false
set_option maxRecDepth 20000
set_option maxHeartbeats 4000000

def coR (s : List (Int × Int)) : Option (List (Int × Int × Int)) := if setB s = true then chF 20 [] s else none
def coC (s : List (Int × Int)) : Int := if setB s = true then 3 else 1
theorem c_impl_ChainOfSet {s : List (Int × Int)} (hl : s.length ≤ 1048576) : PSpec Try.prog 35 [.sl s.length (v2 .i64 s)] fun v => v = chV (coR s) (coC s) := by
  cases hB : setB s with
  | true =>
    obtain ⟨h1, h2⟩ := setB_iff hB
    unfold coR coC
    rw [if_pos hB, if_pos hB]
    exact c_impl_ChainOfSet_ok hB h1 h2
  | false =>
    unfold coR coC
    rw [if_neg (by rw [hB]; decide), if_neg (by rw [hB]; decide)]
    refine impl_ChainOfSet_f.f ?_
    simp (disch := first | omega | (simp only [LN]; omega)) only [↓EC, EW, seval, ↓reduceIte, false_imp_iff, impl_ChainOfSet_F]
    refine pcd_v (c_impl_IsSet (by omega)) ?_
    rw [hB]
    (try simp (disch := first | omega | (simp only [LN]; omega)) only [↓EC, EW, seval, ↓reduceIte, false_imp_iff])
    rfl
theorem c_spec_ChainOfSet {s : List (Int × Int)} (hl : s.length ≤ 1048576) : PSpec Try.prog 36 [.sl s.length (v2 .i64 s)] fun v => v = chV (coR s) (coC s) := by
  refine spec_ChainOfSet_f.f ?_
  simp (disch := first | omega | (simp only [LN]; omega)) only [↓EC, EW, seval, ↓reduceIte, false_imp_iff, spec_ChainOfSet_F]
  refine pcd_v (c_spec_l10Set (by omega)) ?_
  cases hB : setB s with
  | true =>
    obtain ⟨h1, h2⟩ := setB_iff hB
    unfold coR coC
    rw [if_pos hB, if_pos hB]
    (try simp (disch := first | omega | (simp only [LN]; omega)) only [↓EC, EW, seval, ↓reduceIte, false_imp_iff])
    have hc := c_spec_l10Chain h1 h2
    generalize chF 20 [] s = o at *
    cases o with
    | none =>
      unfold chW at hc
      simp only at hc
      refine pcd_v hc ?_
      (try simp (disch := first | omega | (simp only [LN]; omega)) only [↓EC, EW, seval, ↓reduceIte, false_imp_iff])
      rfl
    | some r =>
      unfold chW at hc
      simp only at hc
      refine pcd_o hc ?_
      (try simp (disch := first | omega | (simp only [LN]; omega)) only [↓EC, EW, seval, ↓reduceIte, false_imp_iff, chV])
  | false =>
    unfold coR coC
    rw [if_neg (by rw [hB]; decide), if_neg (by rw [hB]; decide)]
    (try simp (disch := first | omega | (simp only [LN]; omega)) only [↓EC, EW, seval, ↓reduceIte, false_imp_iff])
    rfl
theorem chF_len {n : Nat} {out r : List (Int × Int × Int)} {s : List (Int × Int)} (h : chF n out s = some r) : r.length ≤ out.length + n := by
  induction n generalizing out s with
  | zero =>
    simp only [chF] at h
    split at h
    · simp only [Option.some.injEq] at h; subst h; omega
    · cases h
  | succ n ih =>
    simp only [chF] at h
    split at h
    · simp only [Option.some.injEq] at h; subst h; omega
    · split at h
      · cases hi : imS (nmM (opL s)).1.1 (nmM (opL s)).1.2.1 (nmM (opL s)).1.2.2 s with
        | none => rw [hi] at h; cases h
        | some t =>
          rw [hi] at h
          have := ih h
          simp only [List.length_append, List.length_cons, List.length_nil] at this
          omega
      · cases h
end Go.Proofs.Ytlfpiegadaiafaa.Sep
end
section
/- Chains of moves: the plain law. -/
namespace Go.Proofs.Ytlfpiegadaiafaa.Sep
open Go.RowKit
set_option linter.unusedVariables false
set_option linter.unusedSimpArgs false
set_option maxRecDepth 20000

theorem imO_mem {k f l : Int} {s a : List (Int × Int)} (h : imO k f l s = some a) {x : Int × Int} (hx : x ∈ s) : ∃ y, mvO k f l x.1 x.2 = some y ∧ y ∈ a := by
  induction s generalizing a with
  | nil => simp at hx
  | cons b s ih =>
    simp only [imO] at h
    cases hb : mvO k f l b.1 b.2 with
    | none => rw [hb] at h; simp at h
    | some y =>
      rw [hb] at h
      simp only [Option.bind_some] at h
      cases hi : imO k f l s with
      | none => rw [hi] at h; simp at h
      | some t =>
        rw [hi] at h
        simp only [Option.map_some, Option.some.injEq] at h
        subst h
        rcases List.mem_cons.1 hx with rfl | hx
        · exact ⟨y, hb, by simp⟩
        · obtain ⟨w, h1, h2⟩ := ih hi hx
          exact ⟨w, h1, by simp [h2]⟩
theorem imS_mem {k f l : Int} {s r : List (Int × Int)} (hm : isMoveB k f l = true) (hs : allF s) (h : imS k f l s = some r) {x : Int × Int} (hx : x ∈ s) : ∃ y, mvO k f l x.1 x.2 = some y ∧ y ∈ r := by
  unfold imS at h
  cases ho : imO k f l s with
  | none => rw [ho] at h; simp at h
  | some a =>
    rw [ho] at h
    simp only [Option.map_some, Option.some.injEq] at h
    obtain ⟨fa, la⟩ := imO_all hm hs ho
    obtain ⟨y, h1, h2⟩ := imO_mem ho hx
    exact ⟨y, h1, by rw [← h]; exact ((srtF_spec fa).2.2.1 y).2 h2⟩
theorem setB_str {r : List (Int × Int)} (h1 : allF r) (h2 : strF r) (h3 : r.length ≤ 12) : setB r = true := by
  unfold setB
  rw [Bool.and_eq_true, decide_eq_true_eq, decide_eq_true_eq]
  refine ⟨fun i hi => ⟨?_, fun h0 => ?_⟩, h3⟩
  · rw [g2_of hi]; exact h1 _ (List.getElem_mem hi)
  · rw [g2_of hi, g2_of (show i - 1 < r.length by omega)]
    exact List.pairwise_iff_getElem.1 h2 (i - 1) i (by omega) hi (by omega)
theorem ioR_some {k f l : Int} {s r : List (Int × Int)} {c : Int} (h : ioR k f l s = (some r, c)) : isMoveB k f l = true ∧ setB s = true ∧ imS k f l s = some r ∧ c = 0 := by
  unfold ioR at h
  split at h
  · rename_i hc
    cases hi : imS k f l s with
    | none => rw [hi] at h; simp at h
    | some t => rw [hi] at h; simp only [Prod.mk.injEq, Option.some.injEq] at h; exact ⟨hc.1, hc.2, by rw [h.1], h.2.symm⟩
  · simp at h
theorem ioR_law {k f l : Int} {s r : List (Int × Int)} {c : Int} (h : ioR k f l s = (some r, c)) : c = 0 ∧ setB r = true ∧ r.length ≤ s.length ∧ s.length ≤ 12 ∧ ∀ x ∈ s, ∃ y, mfV k f l x.1 x.2 = .tup [.agg [.int .i64 y.1, .int .i64 y.2], .int .i64 0] ∧ y ∈ r := by
  obtain ⟨h1, h2, h3, h4⟩ := ioR_some h
  obtain ⟨h5, h6⟩ := setB_iff h2
  obtain ⟨h7, h8⟩ := imS_all h1 h5 h3
  refine ⟨h4, setB_str h7 ?_ (by omega), h8, h6, fun x hx => ?_⟩
  · unfold imS at h3
    cases ho : imO k f l s with
    | none => rw [ho] at h3; simp at h3
    | some a =>
      rw [ho] at h3
      simp only [Option.map_some, Option.some.injEq] at h3
      rw [← h3]
      exact (srtF_spec (imO_all h1 h5 ho).1).2.1
  · obtain ⟨y, g1, g2⟩ := imS_mem h1 h5 h3 hx
    refine ⟨y, ?_, g2⟩
    have : isFr x.1 x.2 = true := h5 x hx
    unfold mfV; rw [if_pos ⟨h1, this⟩, g1]; rfl
theorem ioR_none {k f l : Int} {s : List (Int × Int)} {c : Int} (h : ioR k f l s = (none, c)) : c ≠ 0 := by
  unfold ioR at h
  split at h
  · cases hi : imS k f l s with
    | none => rw [hi] at h; simp at h; omega
    | some t => rw [hi] at h; simp at h
  · simp at h; omega

/-! ### Chains -/
theorem opL_none : ∀ {l : List (Int × Int)}, opL l = none → ∀ x ∈ l, doneF x
  | [], _, x, hx => by simp at hx
  | a :: r, h, x, hx => by
    simp only [opL] at h
    split at h
    · rcases List.mem_cons.1 hx with rfl | hx
      · assumption
      · exact opL_none h x hx
    · cases h
theorem nmM_5 {o : Option (Int × Int)} (h : (nmM o).2 = 5) : o = none := by
  cases o with
  | none => rfl
  | some a =>
    exfalso
    unfold nmM at h
    simp only at h
    split at h
    · simp at h
    · split at h
      · simp at h
      · split at h <;> simp at h
theorem chF_run {n : Nat} : ∀ {out r : List (Int × Int × Int)} {s : List (Int × Int)}, allF s → chF n out s = some r →
    ∃ c, r = out ++ c ∧ c.length ≤ n ∧ c.all isMv = true ∧ ∀ x ∈ s, ∃ y, runO c x = some y ∧ doneF y := by
  induction n with
  | zero =>
    intro out r s hs h
    simp only [chF] at h
    split at h
    · simp only [Option.some.injEq] at h
      exact ⟨[], by simp [h], by simp, rfl, fun x hx => ⟨x, rfl, opL_none (nmM_5 (by assumption)) x hx⟩⟩
    · cases h
  | succ n ih =>
    intro out r s hs h
    by_cases h5 : (nmM (opL s)).2 = 5
    · rw [chF_done h5] at h
      simp only [Option.some.injEq] at h
      exact ⟨[], by simp [h], by simp, rfl, fun x hx => ⟨x, rfl, opL_none (nmM_5 h5) x hx⟩⟩
    · rcases nx_cases (opL s) with ⟨h0, _⟩ | ⟨a, b, c, h0, hm, _⟩ | ⟨h0, _⟩
      · rw [h0] at h5; exact absurd rfl h5
      · rw [chF_step h0] at h
        cases hi : imS a b c s with
        | none => rw [hi] at h; simp at h
        | some t =>
          rw [hi] at h
          simp only [Option.bind_some] at h
          obtain ⟨d, e1, e2, e3, e4⟩ := ih (imS_all hm hs hi).1 h
          refine ⟨(a, b, c) :: d, by rw [e1]; simp, by simp only [List.length_cons]; omega, by simp only [List.all_cons, Bool.and_eq_true]; exact ⟨hm, e3⟩, fun x hx => ?_⟩
          obtain ⟨y, g1, g2⟩ := imS_mem hm hs hi hx
          obtain ⟨w, g3, g4⟩ := e4 y g2
          exact ⟨w, by simp only [runO, g1, Option.bind_some]; exact g3, g4⟩
      · rw [chF_lim (by rw [h0])] at h; cases h
theorem coR_law {s : List (Int × Int)} {r : List (Int × Int × Int)} (h : coR s = some r) : r.length ≤ 20 ∧ s.length ≤ 12 ∧ (s = [] → r = []) ∧
    ∀ x ∈ s, ∃ y : Int × Int, rmV r x.1 x.2 = .tup [.agg [.int .i64 y.1, .int .i64 y.2], .int .i64 0] ∧ (y.1 = 0 ∨ y.2 = 0 ∨ y.1 = y.2) := by
  unfold coR at h
  split at h
  · rename_i hB
    obtain ⟨h1, h2⟩ := setB_iff hB
    obtain ⟨c, e1, e2, e3, e4⟩ := chF_run h1 h
    rw [List.nil_append] at e1
    subst e1
    refine ⟨e2, h2, fun hs => ?_, fun x hx => ?_⟩
    · subst hs
      rw [chF_done (by decide)] at h
      simpa using h.symm
    · obtain ⟨y, g1, g2⟩ := e4 x hx
      refine ⟨y, ?_, by unfold doneF at g2; omega⟩
      unfold rmV
      have : isFr x.1 x.2 = true := h1 x hx
      have hm : movesC r = 0 := by unfold movesC; rw [if_pos e3, if_neg (by omega)]
      rw [if_pos this, if_pos hm, g1]; rfl
  · cases h
end Go.Proofs.Ytlfpiegadaiafaa.Sep
end
section
/- Comparing sets and chains in the laws. -/
namespace Go.Proofs.Ytlfpiegadaiafaa.Sep
open Go.RowKit
set_option linter.unusedVariables false
set_option linter.unusedSimpArgs false
set_option maxRecDepth 20000
set_option maxHeartbeats 1000000

theorem c_laws_set9 {l m : List (Int × Int)} (hl : l.length ≤ 1048576) : PSpec Try.prog 28 [.sl l.length (v2 .i64 l), .sl m.length (v2 .i64 m)] fun v => v = .bool (decide (l = m)) := by
  refine laws_set9_f.f ?_
  simp (disch := first | omega | (simp only [LN]; omega)) only [↓EC, EW, seval, ↓reduceIte, false_imp_iff, laws_set9_F]
  (refine Split.mk (fun h => ?_) (fun h => ?_) <;> (try simp only [decide_eq_true_eq, decide_eq_false_iff_not, beq_iff_eq, bne_iff_ne, beq_eq_false_iff_ne, bne_eq_false_iff_eq, Bool.not_eq_true', Bool.not_eq_false', Bool.and_eq_true, Bool.or_eq_true, Bool.and_eq_false_iff, Bool.or_eq_false_iff, Int.not_lt, Int.not_le, Bool.false_eq_true, Bool.true_eq_false, false_and, and_false, true_and, and_true, or_false, false_or, or_true, true_or, not_true_eq_false, not_false_eq_true] at h))
  · (try simp (disch := first | omega | (simp only [LN]; omega)) only [↓EC, EW, seval, ↓reduceIte, false_imp_iff])
    rw [eq_comm, V.bool.injEq, decide_eq_false_iff_not]
    intro e; subst e; omega
  · refine LP_of (σ := Nat) 100000 [] (fun s => [.int .i64 s]) (fun s => [])
      (fun s => s ≤ l.length ∧ ∀ j, j < s → g2 l j = g2 m j) (fun s => l.length - s) 0 (by simp [frameOk, names, lpz, sclp, scv, scvs, vi_nrf, vb_nrf, vt_nrf, v2_nrf, v3_nrf, nrfs, nrf, sc_vi, sc_vb, sc_vt, sc_v2, sc_v3, sc_vo, sc_vl, vo_nrf, vl_nrf, sc_vn, vn_nrf]) ⟨Nat.zero_le _, fun j hj => absurd hj (Nat.not_lt_zero j)⟩ ?_ ?_
    · simp (disch := first | omega | (simp only [LN]; omega)) only [↓EC, EW, seval, ↓reduceIte, false_imp_iff, ColV_def]
    · rintro i ⟨h1, h2⟩
      simp (disch := first | omega | (simp only [LN]; omega)) only [↓EC, EW, seval, ↓reduceIte, false_imp_iff, ColV_def, lheap_def]
      (refine Split.mk (fun h => ?_) (fun h => ?_) <;> (try simp only [decide_eq_true_eq, decide_eq_false_iff_not, beq_iff_eq, bne_iff_ne, beq_eq_false_iff_ne, bne_eq_false_iff_eq, Bool.not_eq_true', Bool.not_eq_false', Bool.and_eq_true, Bool.or_eq_true, Bool.and_eq_false_iff, Bool.or_eq_false_iff, Int.not_lt, Int.not_le, Bool.false_eq_true, Bool.true_eq_false, false_and, and_false, true_and, and_true, or_false, false_or, or_true, true_or, not_true_eq_false, not_false_eq_true] at h))
      · (try simp (disch := first | omega | (simp only [LN]; omega)) only [↓EC, EW, seval, ↓reduceIte, false_imp_iff])
        (refine Split.mk (fun h => ?_) (fun h => ?_) <;> (try simp only [decide_eq_true_eq, decide_eq_false_iff_not, beq_iff_eq, bne_iff_ne, beq_eq_false_iff_ne, bne_eq_false_iff_eq, Bool.not_eq_true', Bool.not_eq_false', Bool.and_eq_true, Bool.or_eq_true, Bool.and_eq_false_iff, Bool.or_eq_false_iff, Int.not_lt, Int.not_le, Bool.false_eq_true, Bool.true_eq_false, false_and, and_false, true_and, and_true, or_false, false_or, or_true, true_or, not_true_eq_false, not_false_eq_true] at h))
        · (try simp (disch := first | omega | (simp only [LN]; omega)) only [↓EC, EW, seval, ↓reduceIte, false_imp_iff])
          rw [eq_comm, V.bool.injEq, decide_eq_false_iff_not]
          intro e; subst e; simp at h
        · (try simp (disch := first | omega | (simp only [LN]; omega)) only [↓EC, EW, seval, ↓reduceIte, false_imp_iff])
          refine ⟨i + 1, rfl, ⟨by omega, fun j hj => ?_⟩, by omega⟩
          by_cases e : j = i
          · subst e; exact Prod.ext (by grind) (by grind)
          · exact h2 j (by omega)
      · (try simp (disch := first | omega | (simp only [LN]; omega)) only [↓EC, EW, seval, ↓reduceIte, false_imp_iff])
        rw [eq_comm, V.bool.injEq, decide_eq_true_eq]
        exact g2_ext (by omega) fun j hj => h2 j (by omega)
theorem c_laws_set9_nil : PSpec Try.prog 28 [.nils, .nils] fun v => v = .bool true := by
  refine laws_set9_f.f ?_
  simp (disch := first | omega | (simp only [LN]; omega)) only [↓EC, EW, seval, ↓reduceIte, false_imp_iff, laws_set9_F]
  refine LP_of (σ := Unit) 100000 [] (fun s => [.int .i64 0]) (fun s => []) (fun s => True) (fun s => 0) () (by simp [frameOk, names, lpz, sclp, scv, scvs, vi_nrf, vb_nrf, vt_nrf, v2_nrf, v3_nrf, nrfs, nrf, sc_vi, sc_vb, sc_vt, sc_v2, sc_v3, sc_vo, sc_vl, vo_nrf, vl_nrf, sc_vn, vn_nrf]) trivial ?_ ?_
  · simp (disch := first | omega | (simp only [LN]; omega)) only [↓EC, EW, seval, ↓reduceIte, false_imp_iff, ColV_def]
  · rintro _ _
    simp (disch := first | omega | (simp only [LN]; omega)) only [↓EC, EW, seval, ↓reduceIte, false_imp_iff, ColV_def, lheap_def]
theorem c_laws_moves9 {l m : List (Int × Int × Int)} (hl : l.length ≤ 1048576) : PSpec Try.prog 37 [.sl l.length (v3 .i64 l), .sl m.length (v3 .i64 m)] fun v => v = .bool (decide (l = m)) := by
  refine laws_moves9_f.f ?_
  simp (disch := first | omega | (simp only [LN]; omega)) only [↓EC, EW, seval, ↓reduceIte, false_imp_iff, laws_moves9_F]
  (refine Split.mk (fun h => ?_) (fun h => ?_) <;> (try simp only [decide_eq_true_eq, decide_eq_false_iff_not, beq_iff_eq, bne_iff_ne, beq_eq_false_iff_ne, bne_eq_false_iff_eq, Bool.not_eq_true', Bool.not_eq_false', Bool.and_eq_true, Bool.or_eq_true, Bool.and_eq_false_iff, Bool.or_eq_false_iff, Int.not_lt, Int.not_le, Bool.false_eq_true, Bool.true_eq_false, false_and, and_false, true_and, and_true, or_false, false_or, or_true, true_or, not_true_eq_false, not_false_eq_true] at h))
  · (try simp (disch := first | omega | (simp only [LN]; omega)) only [↓EC, EW, seval, ↓reduceIte, false_imp_iff])
    rw [eq_comm, V.bool.injEq, decide_eq_false_iff_not]
    intro e; subst e; omega
  · refine LP_of (σ := Nat) 100000 [] (fun s => [.int .i64 s]) (fun s => [])
      (fun s => s ≤ l.length ∧ ∀ j, j < s → g3 l j = g3 m j) (fun s => l.length - s) 0 (by simp [frameOk, names, lpz, sclp, scv, scvs, vi_nrf, vb_nrf, vt_nrf, v2_nrf, v3_nrf, nrfs, nrf, sc_vi, sc_vb, sc_vt, sc_v2, sc_v3, sc_vo, sc_vl, vo_nrf, vl_nrf, sc_vn, vn_nrf]) ⟨Nat.zero_le _, fun j hj => absurd hj (Nat.not_lt_zero j)⟩ ?_ ?_
    · simp (disch := first | omega | (simp only [LN]; omega)) only [↓EC, EW, seval, ↓reduceIte, false_imp_iff, ColV_def]
    · rintro i ⟨h1, h2⟩
      simp (disch := first | omega | (simp only [LN]; omega)) only [↓EC, EW, seval, ↓reduceIte, false_imp_iff, ColV_def, lheap_def]
      (refine Split.mk (fun h => ?_) (fun h => ?_) <;> (try simp only [decide_eq_true_eq, decide_eq_false_iff_not, beq_iff_eq, bne_iff_ne, beq_eq_false_iff_ne, bne_eq_false_iff_eq, Bool.not_eq_true', Bool.not_eq_false', Bool.and_eq_true, Bool.or_eq_true, Bool.and_eq_false_iff, Bool.or_eq_false_iff, Int.not_lt, Int.not_le, Bool.false_eq_true, Bool.true_eq_false, false_and, and_false, true_and, and_true, or_false, false_or, or_true, true_or, not_true_eq_false, not_false_eq_true] at h))
      · (try simp (disch := first | omega | (simp only [LN]; omega)) only [↓EC, EW, seval, ↓reduceIte, false_imp_iff])
        (refine Split.mk (fun h => ?_) (fun h => ?_) <;> (try simp only [decide_eq_true_eq, decide_eq_false_iff_not, beq_iff_eq, bne_iff_ne, beq_eq_false_iff_ne, bne_eq_false_iff_eq, Bool.not_eq_true', Bool.not_eq_false', Bool.and_eq_true, Bool.or_eq_true, Bool.and_eq_false_iff, Bool.or_eq_false_iff, Int.not_lt, Int.not_le, Bool.false_eq_true, Bool.true_eq_false, false_and, and_false, true_and, and_true, or_false, false_or, or_true, true_or, not_true_eq_false, not_false_eq_true] at h))
        · (try simp (disch := first | omega | (simp only [LN]; omega)) only [↓EC, EW, seval, ↓reduceIte, false_imp_iff])
          rw [eq_comm, V.bool.injEq, decide_eq_false_iff_not]
          intro e; subst e; simp at h
        · (try simp (disch := first | omega | (simp only [LN]; omega)) only [↓EC, EW, seval, ↓reduceIte, false_imp_iff])
          refine ⟨i + 1, rfl, ⟨by omega, fun j hj => ?_⟩, by omega⟩
          by_cases e : j = i
          · subst e; exact Prod.ext (by grind) (Prod.ext (by grind) (by grind))
          · exact h2 j (by omega)
      · (try simp (disch := first | omega | (simp only [LN]; omega)) only [↓EC, EW, seval, ↓reduceIte, false_imp_iff])
        rw [eq_comm, V.bool.injEq, decide_eq_true_eq]
        exact g3_ext (by omega) fun j hj => h2 j (by omega)
theorem c_laws_moves9_nil : PSpec Try.prog 37 [.nils, .nils] fun v => v = .bool true := by
  refine laws_moves9_f.f ?_
  simp (disch := first | omega | (simp only [LN]; omega)) only [↓EC, EW, seval, ↓reduceIte, false_imp_iff, laws_moves9_F]
  refine LP_of (σ := Unit) 100000 [] (fun s => [.int .i64 0]) (fun s => []) (fun s => True) (fun s => 0) () (by simp [frameOk, names, lpz, sclp, scv, scvs, vi_nrf, vb_nrf, vt_nrf, v2_nrf, v3_nrf, nrfs, nrf, sc_vi, sc_vb, sc_vt, sc_v2, sc_v3, sc_vo, sc_vl, vo_nrf, vl_nrf, sc_vn, vn_nrf]) trivial ?_ ?_
  · simp (disch := first | omega | (simp only [LN]; omega)) only [↓EC, EW, seval, ↓reduceIte, false_imp_iff, ColV_def]
  · rintro _ _
    simp (disch := first | omega | (simp only [LN]; omega)) only [↓EC, EW, seval, ↓reduceIte, false_imp_iff, ColV_def, lheap_def]
end Go.Proofs.Ytlfpiegadaiafaa.Sep
end
section
/- What the functions on permutations and dessins compute. -/
namespace Go.Proofs.Ytlfpiegadaiafaa.Sep
open Go.RowKit
set_option linter.unusedVariables false
set_option linter.unusedSimpArgs false
set_option maxRecDepth 20000

/-- Sixteen bytes. -/
def okP (p : List Int) : Prop := p.length = 16 ∧ ∀ i, i < 16 → 0 ≤ gi p i ∧ gi p i ≤ 255
theorem okP.len {p : List Int} (h : okP p) : p.length = 16 := h.1

/-- A dessin's cells. -/
def vD (n : Int) (b w : List Int) : V := .agg (.int .i64 n :: vi .u8 (b ++ w))
/-! ### Permutations -/
def PmAt (p : List Int) (n : Int) (j : Nat) : Prop := ((j : Int) < n → gi p j < n ∧ ∀ k, k < j → gi p k ≠ gi p j) ∧ (n ≤ j → gi p j = 0)
def isPm (p : List Int) (n : Int) : Prop := (1 ≤ n ∧ n ≤ 16) ∧ ∀ j, j < 16 → PmAt p n j
noncomputable def isPmB (p : List Int) (n : Int) : Bool := by classical exact decide (isPm p n)
theorem isPmB_iff {p : List Int} {n : Int} : isPmB p n = true ↔ isPm p n := by simp [isPmB]
theorem isPmB_no {p : List Int} {n : Int} (h : ¬ isPm p n) : isPmB p n = false := by simp [isPmB, h]
theorem isPmB_yes {p : List Int} {n : Int} (h : isPm p n) : isPmB p n = true := isPmB_iff.2 h
theorem not_isPm {p : List Int} {n : Int} {i : Nat} (hi : i < 16) (h : ¬ PmAt p n i) : ¬ isPm p n := fun hp => h (hp.2 i hi)

/-- What a search for numbers that are met twice knows. -/
def Met (p : List Int) (n : Int) (m : List Bool) (i : Nat) : Prop := i ≤ 16 ∧ m.length = 16 ∧ (∀ j, j < i → PmAt p n j) ∧ ∀ x : Nat, x < 16 → (gb m x = true ↔ ∃ j, j < i ∧ (j : Int) < n ∧ gi p j = x)
theorem Met.zero (p : List Int) (n : Int) : Met p n (List.replicate 16 false) 0 := by
  refine ⟨Nat.zero_le _, by simp, fun j hj => absurd hj (Nat.not_lt_zero j), fun x hx => ?_⟩
  rw [gb_rep]; simp
theorem Met.skip {p : List Int} {n : Int} {m : List Bool} {i : Nat} (h : Met p n m i) (hi : i < 16) (hn : n ≤ i) (h0 : gi p i = 0) : Met p n m (i + 1) := by
  obtain ⟨h1, h2, h3, h4⟩ := h
  refine ⟨by omega, h2, fun j hj => ?_, fun x hx => ?_⟩
  · by_cases e : j = i
    · subst e; exact ⟨fun h => absurd h (by omega), fun _ => h0⟩
    · exact h3 j (by omega)
  · rw [h4 x hx]
    exact ⟨fun ⟨j, a, b, c⟩ => ⟨j, by omega, b, c⟩, fun ⟨j, a, b, c⟩ => ⟨j, by omega, b, c⟩⟩
theorem Met.put {p : List Int} {n : Int} {m : List Bool} {i : Nat} (h : Met p n m i) (hi : i < 16) (hn : (i : Int) < n) (hn16 : n ≤ 16) (h0 : 0 ≤ gi p i) (h1 : gi p i < n) (hm : gb m (gi p i).toNat = false) : Met p n (m.set (gi p i).toNat true) (i + 1) := by
  obtain ⟨g1, g2, g3, g4⟩ := h
  have hx16 : (gi p i).toNat < 16 := by omega
  refine ⟨by omega, by simpa using g2, fun j hj => ?_, fun x hx => ?_⟩
  · by_cases e : j = i
    · subst e
      refine ⟨fun _ => ⟨h1, fun k hk he => ?_⟩, fun h => absurd h (by omega)⟩
      have := (g4 (gi p j).toNat hx16).2 ⟨k, hk, by omega, by omega⟩
      rw [hm] at this; cases this
    · exact g3 j (by omega)
  · rw [gb_set, g2]
    by_cases e : (gi p i).toNat = x
    · rw [if_pos ⟨e, hx⟩]
      exact ⟨fun _ => ⟨i, by omega, hn, by omega⟩, fun _ => rfl⟩
    · rw [if_neg (fun h => e h.1), g4 x hx]
      refine ⟨fun ⟨j, a, b, c⟩ => ⟨j, by omega, b, c⟩, fun ⟨j, a, b, c⟩ => ⟨j, ?_, b, c⟩⟩
      have : j ≠ i := fun hj => e (by subst hj; omega)
      omega
theorem Met.twice {p : List Int} {n : Int} {m : List Bool} {i : Nat} (h : Met p n m i) (hn : (i : Int) < n) (hn16 : n ≤ 16) (h0 : 0 ≤ gi p i) (h1 : gi p i < n) (hm : gb m (gi p i).toNat = true) : ¬ PmAt p n i := by
  obtain ⟨j, a, b, c⟩ := (h.2.2.2 (gi p i).toNat (by omega)).1 hm
  exact fun hp => (hp.1 hn).2 j a (by omega)

theorem c_spec_l01In {n a b : Int} : PSpec Try.prog 48 [.int .i64 n, .int .i64 a, .int .i64 b] fun v => v = .bool (decide (a ≤ n ∧ n ≤ b)) := by
  refine spec_l01In_f.f ?_
  simp (disch := first | omega | (simp only [LN]; omega)) only [↓EC, EW, seval, ↓reduceIte, false_imp_iff, spec_l01In_F]
  unfold Split
  simp only [V.bool.injEq]
  grind
/-! ### What is reached from 0 -/
abbrev Sr := List Int × List Bool
def visit (y : Int) (s : Sr) : Sr := if gb s.2 y.toNat = true then s else (s.1 ++ [y], s.2.set y.toNat true)
def srStep (p q : List Int) (i : Nat) (s : Sr) : Sr := visit (gi q (gi s.1 i).toNat) (visit (gi p (gi s.1 i).toNat) s)
def srRun (p q : List Int) : Nat → Nat → Sr → Sr
  | 0, _, s => s
  | k + 1, i, s => if i < s.1.length then srRun p q k (i + 1) (srStep p q i s) else s
def sr0 : Sr := ([0], (List.replicate 16 false).set 0 true)
def cntR (p q : List Int) : Nat := (srRun p q 17 0 sr0).1.length
/-- Numbers below 16. -/
def lo16 (p : List Int) : Prop := p.length = 16 ∧ ∀ i, i < 16 → 0 ≤ gi p i ∧ gi p i < 16
theorem isPm.lo {p : List Int} {n : Int} (hp : okP p) (h : isPm p n) : lo16 p := ⟨hp.1, fun i hi => by
  obtain ⟨h1, h2⟩ := h
  have h3 := h2 i hi
  have := (hp.2 i hi).1
  by_cases h4 : (i : Int) < n
  · have := (h3.1 h4).1; omega
  · have := h3.2 (by omega); omega⟩
structure SrOk (s : Sr) : Prop where
  len : s.2.length = 16
  cnt : s.1.length = s.2.count true
  lo : ∀ j, j < s.1.length → 0 ≤ gi s.1 j ∧ gi s.1 j < 16
theorem SrOk.le {s : Sr} (h : SrOk s) : s.1.length ≤ 16 := by
  rw [h.cnt, ← h.len]; exact List.count_le_length
theorem sr0_ok : SrOk sr0 := ⟨rfl, rfl, fun j hj => by
  have : j = 0 := by simp [sr0] at hj; exact hj
  subst this; decide⟩
theorem visit_ok {s : Sr} (h : SrOk s) {y : Int} (hy : 0 ≤ y ∧ y < 16) : SrOk (visit y s) := by
  unfold visit
  split
  · exact h
  · rename_i hv
    have hl : y.toNat < s.2.length := by rw [h.len]; omega
    refine ⟨by simp [h.len], ?_, fun j hj => ?_⟩
    · have hg : s.2[y.toNat] = false := by
        have := gb_of hl
        rw [← this]; simpa using hv
      simp only [List.length_append, List.length_cons, List.length_nil]
      rw [List.count_set hl, hg, h.cnt]
      simp
    · simp only [List.length_append, List.length_cons, List.length_nil] at hj
      simp only [gi_app]
      split
      · exact h.lo j (by assumption)
      · have : j - s.1.length = 0 := by omega
        rw [this]; exact hy
theorem visit_len {s : Sr} {y : Int} : s.1.length ≤ (visit y s).1.length := by
  unfold visit; split <;> simp
theorem srStep_ok {p q : List Int} (hp : lo16 p) (hq : lo16 q) {s : Sr} (h : SrOk s) {i : Nat} (hi : i < s.1.length) : SrOk (srStep p q i s) := by
  have h0 := h.lo i hi
  exact visit_ok (visit_ok h (hp.2 _ (by omega))) (hq.2 _ (by omega))
theorem srStep_len {p q : List Int} {s : Sr} {i : Nat} : s.1.length ≤ (srStep p q i s).1.length := Nat.le_trans visit_len visit_len
theorem visit_yes {s : Sr} {y : Int} (h : gb s.2 y.toNat = true) : visit y s = s := if_pos h
theorem visit_no {s : Sr} {y : Int} (h : gb s.2 y.toNat = false) : visit y s = (s.1 ++ [y], s.2.set y.toNat true) := if_neg (by simp [h])

noncomputable def isDB (n : Int) (b w : List Int) : Bool := isPmB b n && isPmB w n && decide ((cntR b w : Int) = n)
structure isD (n : Int) (b w : List Int) : Prop where
  pb : isPm b n
  pw : isPm w n
  cn : (cntR b w : Int) = n
theorem isDB_iff {n : Int} {b w : List Int} : isDB n b w = true ↔ isD n b w := by
  simp only [isDB, Bool.and_eq_true, isPmB_iff, decide_eq_true_eq]
  exact ⟨fun ⟨⟨h1, h2⟩, h3⟩ => ⟨h1, h2, h3⟩, fun ⟨h1, h2, h3⟩ => ⟨⟨h1, h2⟩, h3⟩⟩
/-! ### What comes in -/
theorem fits_places (x : List V) (h : Ty.fits (.arr 16 (.int .u8)) x) : ∃ p : List Int, x = vi .u8 p ∧ okP p := by
  simp only [Ty.fits] at h
  obtain ⟨xs, h1, rfl, h2⟩ := h
  obtain ⟨l, rfl, h3⟩ := fits_list fits_int h2
  rw [flat_vi]
  refine ⟨l, rfl, by simpa using h1, fun i hi => ?_⟩
  have hl : i < l.length := by rw [List.length_map] at h1; omega
  rw [gi_of hl]
  exact h3 _ (List.getElem_mem hl)
abbrev tyD : Ty := .st [.int .i64, .arr 16 (.int .u8), .arr 16 (.int .u8)]
theorem ok_dessin {v : V} (h : Ty.ok tyD v) : ∃ n b w, v = vD n b w ∧ okP b ∧ okP w ∧ IntKind.i64.min ≤ n ∧ n ≤ IntKind.i64.max := by
  simp only [Ty.ok, Ty.isAgg, if_true, Ty.fits, Ty.fitss] at h
  obtain ⟨l, rfl, _, _, rfl, ⟨n, rfl, hn⟩, x, _, rfl, hx, y, _, rfl, hy, rfl⟩ := h
  obtain ⟨b, rfl, hb⟩ := fits_places x (by simpa only [Ty.fits] using hx)
  obtain ⟨w, rfl, hw⟩ := fits_places y (by simpa only [Ty.fits] using hy)
  exact ⟨n, b, w, by unfold vD; rw [← vi_app]; simp, hb, hw, hn⟩
end Go.Proofs.Ytlfpiegadaiafaa.Sep
end
section
/- What the functions on coverings compute. -/
namespace Go.Proofs.Ytlfpiegadaiafaa.Sep
open Go.RowKit
set_option linter.unusedVariables false
set_option linter.unusedSimpArgs false
set_option maxRecDepth 20000

/-! ### Voltages -/
def rngB (l : List Int) (lo hi : Int) : Bool := l.all fun a => decide (lo ≤ a ∧ a ≤ hi)
def voltB (n m : Int) (l : List Int) : Bool := decide ((l.length : Int) = n) && l.all fun a => decide (0 ≤ a ∧ a < m)
theorem voltB_len {n m : Int} {l : List Int} (h : ¬ (l.length : Int) = n) : voltB n m l = false := by simp [voltB, h]
theorem voltB_no {n m : Int} {l : List Int} {i : Nat} (hi : i < l.length) (h : ¬ (0 ≤ gi l i ∧ gi l i < m)) : voltB n m l = false := by
  unfold voltB
  rw [Bool.and_eq_false_iff]
  right
  cases ha : l.all fun a => decide (0 ≤ a ∧ a < m) with
  | false => rfl
  | true => exact absurd (by simpa [gi] using (all_getD (d := 0)).1 ha i hi) h
theorem voltB_of {n m : Int} {l : List Int} (h1 : (l.length : Int) = n) (h2 : ∀ k, k < l.length → 0 ≤ gi l k ∧ gi l k < m) : voltB n m l = true := by
  unfold voltB
  rw [Bool.and_eq_true]
  exact ⟨by simp [h1], (all_getD (d := 0)).2 fun j hj => by simpa [gi] using h2 j hj⟩
theorem voltB_at {n m : Int} {l : List Int} (h : voltB n m l = true) : (l.length : Int) = n ∧ ∀ k, k < l.length → 0 ≤ gi l k ∧ gi l k < m := by
  unfold voltB at h
  rw [Bool.and_eq_true] at h
  exact ⟨by simpa using h.1, fun k hk => by simpa [gi] using (all_getD (d := 0)).1 h.2 k hk⟩
theorem voltB_rng {n m : Int} {l : List Int} : voltB n m l = (rngB l 0 (m - 1) && decide ((l.length : Int) = n)) := by
  unfold voltB rngB
  rw [Bool.and_comm]
  congr 2
  funext a
  exact decide_eq_decide.2 (by omega)

end Go.Proofs.Ytlfpiegadaiafaa.Sep
end
section
/- What the laws' functions on rows of rows compute. -/
namespace Go.Proofs.Ytlfpiegadaiafaa.Sep
open Go.RowKit
set_option linter.unusedVariables false
set_option linter.unusedSimpArgs false
set_option maxRecDepth 20000

def szV (x : Int) (n : Nat) : Int := if x - n < 0 then -1 else x - n
def szR : List (List Int) → Int → Int
  | [], x => x
  | l :: r, x => if x - (l.length : Int) < 0 then -1 else szR r (x - l.length)
def szSS (x : Int) (ls : List (List Int)) : Int := if x - (ls.length : Int) < 0 then -1 else szR ls (x - ls.length)
theorem szR_le : ∀ {ls : List (List Int)} {x : Int}, 0 ≤ x → x ≤ 1048576 → 0 ≤ szR ls x → ∀ l ∈ ls, l.length ≤ 1048576
  | [], x, _, _, _, l, hl => by simp at hl
  | a :: r, x, h0, h1, h2, l, hl => by
    simp only [szR] at h2
    split at h2
    · omega
    · simp only [List.mem_cons] at hl
      rcases hl with rfl | hl
      · omega
      · exact szR_le (by omega) (by omega) h2 l hl
theorem szSS_le {ls : List (List Int)} (h : 0 ≤ szSS 1048576 ls) : ls.length ≤ 1048576 ∧ ∀ l ∈ ls, l.length ≤ 1048576 := by
  unfold szSS at h
  split at h
  · omega
  · exact ⟨by omega, szR_le (by omega) (by omega) h⟩
theorem gl_mem {ls : List (List Int)} {i : Nat} (hi : i < ls.length) : gl ls i ∈ ls := by
  simp only [gl, List.getD, hi, List.getElem?_eq_getElem, Option.getD_some]; exact List.getElem_mem hi
theorem take_gl {ls : List (List Int)} {i : Nat} (hi : i < ls.length) : ls.take (i + 1) = ls.take i ++ [gl ls i] := by
  rw [List.take_add_one]; simp [gl, List.getD, hi]
end Go.Proofs.Ytlfpiegadaiafaa.Sep
end
section
/- What the laws' marks compute. -/
namespace Go.Proofs.Ytlfpiegadaiafaa.Sep
open Go.RowKit
set_option linter.unusedVariables false
set_option linter.unusedSimpArgs false
set_option maxRecDepth 20000

def iota (k : Int) (n : Nat) : List Int := (List.range n).map fun j : Nat => k + (j : Int)
theorem iota_len {k : Int} {n : Nat} : (iota k n).length = n := by simp [iota]
theorem iota_at {k : Int} {n j : Nat} (h : j < n) : gi (iota k n) j = k + j := by
  rw [gi_of (by rw [iota_len]; exact h)]; simp [iota]

/-- The marks of rows of rows. -/
def rowsN : List (List Int) → Nat
  | [] => 0
  | l :: r => l.length + rowsN r
def iotaSS : List (List Int) → Int → List (List Int)
  | [], _ => []
  | l :: r, k => iota k l.length :: iotaSS r (k + l.length)
theorem iotaSS_len : ∀ {ls : List (List Int)} {k : Int}, (iotaSS ls k).length = ls.length
  | [], k => rfl
  | l :: r, k => by simp [iotaSS, iotaSS_len (ls := r)]
theorem rowsN_take_le : ∀ (ls : List (List Int)) (i : Nat), rowsN (ls.take i) ≤ rowsN ls
  | [], i => by simp [rowsN]
  | l :: r, 0 => by simp [rowsN]
  | l :: r, i + 1 => by simp only [List.take_succ_cons, rowsN]; have := rowsN_take_le r i; omega
theorem rowsN_app : ∀ (a b : List (List Int)), rowsN (a ++ b) = rowsN a + rowsN b
  | [], b => by simp [rowsN]
  | l :: r, b => by simp only [List.cons_append, rowsN, rowsN_app r b]; omega
theorem iotaSS_app : ∀ (a b : List (List Int)) (k : Int), iotaSS (a ++ b) k = iotaSS a k ++ iotaSS b (k + rowsN a)
  | [], b, k => by simp [iotaSS, rowsN]
  | l :: r, b, k => by
    simp only [List.cons_append, iotaSS, iotaSS_app r b, rowsN]
    rw [Int.natCast_add, ← Int.add_assoc]
theorem vo_rf {e : TypeId} {ls : List (List Int)} {l : List Int} {h : Hp} {d i k : Nat} (hd : h d = .row e 1 (vi .i64 l)) (hk : l.length = k) (hi : i < ls.length) :
    folds (fin 4) h ((vo e ls).set i (.rf d 0 k)) = some (vo e (ls.set i l), hput h d .dead) := by
  subst hk
  rw [List.set_eq_take_append_cons_drop, if_pos (by rw [vo_len]; exact hi), vo_take, vo_drop, folds_app, vo_fin]
  have hf : fin 4 h (.rf d 0 l.length) = some (.own e 1 l.length (vi .i64 l), hput h d .dead) := by
    simp only [fin, hd, grd, Nat.mul_one, vi_len, Nat.le_refl, vi_take, List.take_length, vi_fin]
    simp
  simp only [Option.bind_some, folds, hf, vo_fin, Option.map_some]
  rw [List.set_eq_take_append_cons_drop, if_pos hi]
  simp [vo]
end Go.Proofs.Ytlfpiegadaiafaa.Sep
end
section
/- What the laws' functions on rows compute where there are none. -/
namespace Go.Proofs.Ytlfpiegadaiafaa.Sep
open Go.RowKit
set_option linter.unusedVariables false
set_option linter.unusedSimpArgs false
set_option maxRecDepth 20000

end Go.Proofs.Ytlfpiegadaiafaa.Sep
end
section
/- Passports of moves. -/
namespace Go.Proofs.Ytlfpiegadaiafaa.Sep
open Go.RowKit
set_option linter.unusedVariables false
set_option linter.unusedSimpArgs false
set_option maxRecDepth 20000
set_option maxHeartbeats 1000000

/-! ### Two numbers in order -/
theorem c_isNaN {x : Int} : PSpec Try.prog 120 [.int .i64 x] fun v => v = .bool false := by
  refine cmp_isNaN_int64_f.f ?_
  simp (disch := first | omega | (simp only [LN]; omega)) only [↓EC, EW, seval, ↓reduceIte, false_imp_iff, cmp_isNaN_int64_F]
  simp
theorem c_less {x y : Int} : PSpec Try.prog 102 [.int .i64 x, .int .i64 y] fun v => v = .bool (decide (x < y)) := by
  refine cmp_Less_int64_f.f ?_
  simp (disch := first | omega | (simp only [LN]; omega)) only [↓EC, EW, seval, ↓reduceIte, false_imp_iff, cmp_Less_int64_F]
  refine pcd_v c_isNaN ?_
  (try simp (disch := first | omega | (simp only [LN]; omega)) only [↓EC, EW, seval, ↓reduceIte, false_imp_iff])
theorem c_insertionSort {x y : Int} : PSpecM Try.prog 96 [.rf 0 0 2, .int .i64 0, .int .i64 2] [(0, 2, 1)] [vi .i64 [x, y]] fun v c => v = .tup [] ∧ c = [vi .i64 [min x y, max x y]] := by
  refine slices_insertionSortOrdered_int64_f.m rfl rfl ?_
  simp (disch := first | omega | (simp only [LN]; omega)) only [↓EC, EW, seval, ↓reduceIte, false_imp_iff, slices_insertionSortOrdered_int64_F]
  refine LP_of (σ := Nat × List Int) 100000 [(0, 2, 1)] (fun s => [.int .i64 s.1]) (fun s => [vi .i64 s.2])
    (fun s => s.1 = 1 ∧ s.2 = [x, y] ∨ s.1 = 2 ∧ s.2 = [min x y, max x y]) (fun s => 2 - s.1) (1, [x, y]) (by simp [frameOk, names, lpz, sclp, scv, scvs, vi_nrf, vb_nrf, vt_nrf, v2_nrf, v3_nrf, nrfs, nrf, sc_vi, sc_vb, sc_vt, sc_v2, sc_v3, sc_vo, sc_vl, vo_nrf, vl_nrf, sc_vn, vn_nrf]) (.inl ⟨rfl, rfl⟩) ?_ ?_
  · simp (disch := first | omega | (simp only [LN]; omega)) only [↓EC, EW, seval, ↓reduceIte, false_imp_iff, ColV_def]
  · rintro ⟨i, l⟩ (⟨h1, h2⟩ | ⟨h1, h2⟩)
    · simp only at h1 h2
      subst h1; subst h2
      simp (disch := first | omega | (simp only [LN]; omega)) only [↓EC, EW, seval, ↓reduceIte, false_imp_iff, ColV_def, lheap_def]
      refine LP_of (σ := Nat × List Int) 200000 [(0, 2, 1)] (fun s => [.int .i64 s.1]) (fun s => [vi .i64 s.2])
        (fun s => s.1 = 1 ∧ s.2 = [x, y] ∨ s.1 = 0 ∧ s.2 = [y, x] ∧ y < x) (fun s => s.1) (1, [x, y]) (by simp [frameOk, names, lpz, sclp, scv, scvs, vi_nrf, vb_nrf, vt_nrf, v2_nrf, v3_nrf, nrfs, nrf, sc_vi, sc_vb, sc_vt, sc_v2, sc_v3, sc_vo, sc_vl, vo_nrf, vl_nrf, sc_vn, vn_nrf]) (.inl ⟨rfl, rfl⟩) ?_ ?_
      · simp (disch := first | omega | (simp only [LN]; omega)) only [↓EC, EW, seval, ↓reduceIte, false_imp_iff, ColV_def]
      · rintro ⟨j, l⟩ (⟨g1, g2⟩ | ⟨g1, g2, g3⟩)
        · simp only at g1 g2
          subst g1; subst g2
          simp (disch := first | omega | (simp only [LN]; omega)) only [↓EC, EW, seval, ↓reduceIte, false_imp_iff, ColV_def, lheap_def]
          refine pcd_v c_less ?_
          (try simp (disch := first | omega | (simp only [LN]; omega)) only [↓EC, EW, seval, ↓reduceIte, false_imp_iff])
          (refine Split.mk (fun h => ?_) (fun h => ?_) <;> (try simp only [decide_eq_true_eq, decide_eq_false_iff_not, beq_iff_eq, bne_iff_ne, beq_eq_false_iff_ne, bne_eq_false_iff_eq, Bool.not_eq_true', Bool.not_eq_false', Bool.and_eq_true, Bool.or_eq_true, Bool.and_eq_false_iff, Bool.or_eq_false_iff, Int.not_lt, Int.not_le, Bool.false_eq_true, Bool.true_eq_false, false_and, and_false, true_and, and_true, or_false, false_or, or_true, true_or, not_true_eq_false, not_false_eq_true] at h))
          · (try simp (disch := first | omega | (simp only [LN]; omega)) only [↓EC, EW, seval, ↓reduceIte, false_imp_iff])
            exact ⟨(0, [y, x]), rfl, rfl, .inr ⟨rfl, rfl, h⟩, by simp⟩
          · (try simp (disch := first | omega | (simp only [LN]; omega)) only [↓EC, EW, seval, ↓reduceIte, false_imp_iff])
            exact ⟨(2, [min x y, max x y]), rfl, by rw [Int.min_eq_left (by omega), Int.max_eq_right (by omega)], .inr ⟨rfl, rfl⟩, by simp⟩
        · simp only at g1 g2
          subst g1; subst g2
          simp (disch := first | omega | (simp only [LN]; omega)) only [↓EC, EW, seval, ↓reduceIte, false_imp_iff, ColV_def, lheap_def]
          exact ⟨(2, [min x y, max x y]), rfl, by rw [Int.min_eq_right (by omega), Int.max_eq_left (by omega)], .inr ⟨rfl, rfl⟩, by simp⟩
    · simp only at h1 h2
      subst h1; subst h2
      simp (disch := first | omega | (simp only [LN]; omega)) only [↓EC, EW, seval, ↓reduceIte, false_imp_iff, ColV_def, lheap_def]
theorem c_pdqsort {x y k : Int} : PSpecM Try.prog 91 [.rf 0 0 2, .int .i64 0, .int .i64 2, .int .i64 k] [(0, 2, 1)] [vi .i64 [x, y]] fun v c => v = .tup [] ∧ c = [vi .i64 [min x y, max x y]] := by
  refine slices_pdqsortOrdered_int64_f.m rfl rfl ?_
  simp (config := { maxSteps := 10000000 }) (disch := first | omega | (simp only [LN]; omega)) only [↓EC, EW, seval, ↓reduceIte, false_imp_iff, slices_pdqsortOrdered_int64_F]
  refine LP_of (σ := Unit) 100000 [(0, 2, 1)] (fun s => [.int .i64 0, .int .i64 2, .int .i64 k, .bool true, .bool true]) (fun s => [vi .i64 [x, y]])
    (fun s => True) (fun s => 0) () (by simp [frameOk, names, lpz, sclp, scv, scvs, vi_nrf, vb_nrf, vt_nrf, v2_nrf, v3_nrf, nrfs, nrf, sc_vi, sc_vb, sc_vt, sc_v2, sc_v3, sc_vo, sc_vl, vo_nrf, vl_nrf, sc_vn, vn_nrf]) trivial ?_ ?_
  · simp (disch := first | omega | (simp only [LN]; omega)) only [↓EC, EW, seval, ↓reduceIte, false_imp_iff, ColV_def]
  · rintro _ _
    simp (disch := first | omega | (simp only [LN]; omega)) only [↓EC, EW, seval, ↓reduceIte, false_imp_iff, ColV_def, lheap_def]
    refine pcm [0] rfl ?_
    (try simp (disch := first | omega | (simp only [LN]; omega)) only [↓EC, EW, seval, ↓reduceIte, false_imp_iff])
    refine callM_v c_insertionSort ?_
    (try simp (disch := first | omega | (simp only [LN]; omega)) only [↓EC, EW, seval, ↓reduceIte, false_imp_iff])
theorem c_Len64 : PSpec Try.prog 106 [.int .u64 2] fun v => v = .int .i64 2 := by
  refine math_bits_Len64_f.f ?_
  simp (config := { maxSteps := 10000000 }) (disch := first | omega | (simp only [LN]; omega)) only [↓EC, EW, seval, ↓reduceIte, false_imp_iff, math_bits_Len64_F]
  try rfl
theorem c_Len : PSpec Try.prog 92 [.int .u64 2] fun v => v = .int .i64 2 := by
  refine math_bits_Len_f.f ?_
  simp (disch := first | omega | (simp only [LN]; omega)) only [↓EC, EW, seval, ↓reduceIte, false_imp_iff, math_bits_Len_F]
  refine pcd_v c_Len64 ?_
  (try simp (disch := first | omega | (simp only [LN]; omega)) only [↓EC, EW, seval, ↓reduceIte, false_imp_iff])
theorem c_Sort {x y : Int} : PSpecM Try.prog 79 [.rf 0 0 2] [(0, 2, 1)] [vi .i64 [x, y]] fun v c => v = .tup [] ∧ c = [vi .i64 [min x y, max x y]] := by
  refine slices_Sort_int64_int64_i_f.m rfl rfl ?_
  simp (disch := first | omega | (simp only [LN]; omega)) only [↓EC, EW, seval, ↓reduceIte, false_imp_iff, slices_Sort_int64_int64_i_F]
  refine pcd_v c_Len ?_
  (try simp (disch := first | omega | (simp only [LN]; omega)) only [↓EC, EW, seval, ↓reduceIte, false_imp_iff])
  refine pcm [0] rfl ?_
  (try simp (disch := first | omega | (simp only [LN]; omega)) only [↓EC, EW, seval, ↓reduceIte, false_imp_iff])
  refine callM_v c_pdqsort ?_
  (try simp (disch := first | omega | (simp only [LN]; omega)) only [↓EC, EW, seval, ↓reduceIte, false_imp_iff])
theorem c_Reverse {x y : Int} : PSpecM Try.prog 80 [.rf 0 0 2] [(0, 2, 1)] [vi .i64 [x, y]] fun v c => v = .tup [] ∧ c = [vi .i64 [y, x]] := by
  refine slices_Reverse_int64_int64_i_f.m rfl rfl ?_
  simp (disch := first | omega | (simp only [LN]; omega)) only [↓EC, EW, seval, ↓reduceIte, false_imp_iff, slices_Reverse_int64_int64_i_F]
  refine LP_of (σ := Bool) 100000 [(0, 2, 1)] (fun s => if s then [.int .i64 1, .int .i64 0] else [.int .i64 0, .int .i64 1]) (fun s => [vi .i64 (if s then [y, x] else [x, y])])
    (fun s => True) (fun s => if s then 0 else 1) false (by simp [frameOk, names, lpz, sclp, scv, scvs, vi_nrf, vb_nrf, vt_nrf, v2_nrf, v3_nrf, nrfs, nrf, sc_vi, sc_vb, sc_vt, sc_v2, sc_v3, sc_vo, sc_vl, vo_nrf, vl_nrf, sc_vn, vn_nrf]) trivial ?_ ?_
  · simp (disch := first | omega | (simp only [LN]; omega)) only [↓EC, EW, seval, ↓reduceIte, false_imp_iff, ColV_def]
    try rfl
  · rintro s _
    cases s with
    | false =>
      simp only [Bool.false_eq_true, if_false]
      simp (disch := first | omega | (simp only [LN]; omega)) only [↓EC, EW, seval, ↓reduceIte, false_imp_iff, ColV_def, lheap_def]
      exact ⟨true, by simp, by simp [vi], by simp⟩
    | true =>
      simp only [if_true]
      simp (disch := first | omega | (simp only [LN]; omega)) only [↓EC, EW, seval, ↓reduceIte, false_imp_iff, ColV_def, lheap_def]
      try exact ⟨rfl, rfl⟩
theorem c_descending {x y : Int} : PSpecMR Try.prog 60 [.rf 0 0 2] [(0, 2, 1)] [vi .i64 [x, y]] fun j o n c => j = 0 ∧ o = 0 ∧ n = 2 ∧ c = [vi .i64 [max x y, min x y]] := by
  refine impl_descending_f.mr rfl rfl ?_
  simp (disch := first | omega | (simp only [LN]; omega)) only [↓EC, EW, seval, ↓reduceIte, false_imp_iff, impl_descending_F]
  refine pcm [0] rfl ?_
  (try simp (disch := first | omega | (simp only [LN]; omega)) only [↓EC, EW, seval, ↓reduceIte, false_imp_iff])
  refine callM_v c_Sort ?_
  (try simp (disch := first | omega | (simp only [LN]; omega)) only [↓EC, EW, seval, ↓reduceIte, false_imp_iff])
  refine pcm [0] rfl ?_
  (try simp (disch := first | omega | (simp only [LN]; omega)) only [↓EC, EW, seval, ↓reduceIte, false_imp_iff])
  refine callM_v c_Reverse ?_
  (try simp (disch := first | omega | (simp only [LN]; omega)) only [↓EC, EW, seval, ↓reduceIte, false_imp_iff])
  exact ⟨rfl, trivial⟩

/-! ### Ones -/
theorem c_Mul64 {k : Nat} (hk : k ≤ 14) : PSpec Try.prog 90 [.int .u64 1, .int .u64 k] fun v => v = .tup [.int .u64 0, .int .u64 k] := by
  refine math_bits_Mul64_f.f ?_
  have : k = 0 ∨ k = 1 ∨ k = 2 ∨ k = 3 ∨ k = 4 ∨ k = 5 ∨ k = 6 ∨ k = 7 ∨ k = 8 ∨ k = 9 ∨ k = 10 ∨ k = 11 ∨ k = 12 ∨ k = 13 ∨ k = 14 := by omega
  rcases this with rfl | rfl | rfl | rfl | rfl | rfl | rfl | rfl | rfl | rfl | rfl | rfl | rfl | rfl | rfl
  all_goals (simp (disch := first | omega | (simp only [LN]; omega)) only [↓EC, EW, seval, ↓reduceIte, false_imp_iff, math_bits_Mul64_F])
  all_goals rfl
theorem c_Mul {k : Nat} (hk : k ≤ 14) : PSpec Try.prog 78 [.int .u64 1, .int .u64 k] fun v => v = .tup [.int .u64 0, .int .u64 k] := by
  refine math_bits_Mul_f.f ?_
  simp (disch := first | omega | (simp only [LN]; omega)) only [↓EC, EW, seval, ↓reduceIte, false_imp_iff, math_bits_Mul_F]
  refine pcd_v (c_Mul64 hk) ?_
  (try simp (disch := first | omega | (simp only [LN]; omega)) only [↓EC, EW, seval, ↓reduceIte, false_imp_iff])
theorem setV_gen {cs vs : List V} {off : Nat} (h : off + vs.length ≤ cs.length) : setV cs off vs = cs.take off ++ vs ++ cs.drop (off + vs.length) := by
  unfold setV
  split
  · rename_i v
    rw [List.set_eq_take_append_cons_drop, if_pos (by simp at h; omega)]
    simp
  · rfl
theorem setV_rep {t m r : Nat} : setV (vi .i64 (List.replicate t 1 ++ List.replicate (m + r) 0)) t (vi .i64 (List.replicate m 1)) = vi .i64 (List.replicate (t + m) 1 ++ List.replicate r 0) := by
  rw [setV_gen (by simp [vi])]
  simp [vi, List.take_append, List.drop_append, List.map_append, ← List.replicate_append_replicate]
theorem c_Repeat {k : Nat} (hk : k ≤ 14) : PSpec Try.prog 59 [.sl 1 (vi .i64 [1]), .int .i64 k] fun v => v = .own 2 1 k (vi .i64 (List.replicate k 1)) := by
  refine slices_Repeat_int64_int64_i_f.f ?_
  simp (disch := first | omega | (simp only [LN]; omega)) only [↓EC, EW, seval, ↓reduceIte, false_imp_iff, slices_Repeat_int64_int64_i_F]
  (refine Split.mk (fun h => ?_) (fun h => ?_) <;> (try simp only [decide_eq_true_eq, decide_eq_false_iff_not, beq_iff_eq, bne_iff_ne, beq_eq_false_iff_ne, bne_eq_false_iff_eq, Bool.not_eq_true', Bool.not_eq_false', Bool.and_eq_true, Bool.or_eq_true, Bool.and_eq_false_iff, Bool.or_eq_false_iff, Int.not_lt, Int.not_le, Bool.false_eq_true, Bool.true_eq_false, false_and, and_false, true_and, and_true, or_false, false_or, or_true, true_or, not_true_eq_false, not_false_eq_true] at h))
  · omega
  refine pcd_v (c_Mul hk) ?_
  (try simp (disch := first | omega | (simp only [LN]; omega)) only [↓EC, EW, seval, ↓reduceIte, false_imp_iff])
  (refine Split.mk (fun h => ?_) (fun h => ?_) <;> (try simp only [decide_eq_true_eq, decide_eq_false_iff_not, beq_iff_eq, bne_iff_ne, beq_eq_false_iff_ne, bne_eq_false_iff_eq, Bool.not_eq_true', Bool.not_eq_false', Bool.and_eq_true, Bool.or_eq_true, Bool.and_eq_false_iff, Bool.or_eq_false_iff, Int.not_lt, Int.not_le, Bool.false_eq_true, Bool.true_eq_false, false_and, and_false, true_and, and_true, or_false, false_or, or_true, true_or, not_true_eq_false, not_false_eq_true] at h))
  · omega
  (try simp (disch := first | omega | (simp only [LN]; omega)) only [↓EC, EW, seval, ↓reduceIte, false_imp_iff])
  by_cases h0 : k = 0
  · subst h0
    (try simp (disch := first | omega | (simp only [LN]; omega)) only [↓EC, EW, seval, ↓reduceIte, false_imp_iff])
    refine LP_of (σ := Unit) 100000 [(94, 2, 1)] (fun s => [.int .i64 0]) (fun s => [[]]) (fun s => True) (fun s => 0) () (by simp [frameOk, names, lpz, sclp, scv, scvs, vi_nrf, vb_nrf, vt_nrf, v2_nrf, v3_nrf, nrfs, nrf, sc_vi, sc_vb, sc_vt, sc_v2, sc_v3, sc_vo, sc_vl, vo_nrf, vl_nrf, sc_vn, vn_nrf]) trivial ?_ ?_
    · simp (disch := first | omega | (simp only [LN]; omega)) only [↓EC, EW, seval, ↓reduceIte, false_imp_iff, ColV_def]
    · rintro _ _
      simp (disch := first | omega | (simp only [LN]; omega)) only [↓EC, EW, seval, ↓reduceIte, false_imp_iff, ColV_def, lheap_def]
      try rfl
  · have e1 : setV (vi .i64 (List.replicate k 0)) 0 (vi .i64 [1]) = vi .i64 (List.replicate 1 1 ++ List.replicate (k - 1) 0) := by
      obtain ⟨k, rfl⟩ : ∃ k', k = k' + 1 := ⟨k - 1, by omega⟩
      simp [setV, vi, List.replicate_succ]
    have e2 : min 1 k = 1 := by omega
    (try simp (disch := first | omega | (simp only [LN]; omega)) only [↓EC, EW, seval, ↓reduceIte, false_imp_iff, e1, e2])
    refine LP_of (σ := Nat) 100000 [(94, 2, 1)] (fun t => [.int .i64 t]) (fun t => [vi .i64 (List.replicate t 1 ++ List.replicate (k - t) 0)]) (fun t => 1 ≤ t ∧ t ≤ k) (fun t => k - t) 1 (by simp [frameOk, names, lpz, sclp, scv, scvs, vi_nrf, vb_nrf, vt_nrf, v2_nrf, v3_nrf, nrfs, nrf, sc_vi, sc_vb, sc_vt, sc_v2, sc_v3, sc_vo, sc_vl, vo_nrf, vl_nrf, sc_vn, vn_nrf]) ⟨Nat.le_refl _, by omega⟩ ?_ ?_
    · simp (disch := first | omega | (simp only [LN]; omega)) only [↓EC, EW, seval, ↓reduceIte, false_imp_iff, ColV_def]
      try rfl
    · rintro t ⟨t1, t2⟩
      have e3 : setV (vi .i64 (List.replicate t 1 ++ List.replicate (k - t) 0)) t (vi .i64 (List.take (min t (k - t)) (List.take t (List.replicate t 1 ++ List.replicate (k - t) 0)))) = vi .i64 (List.replicate (t + min t (k - t)) 1 ++ List.replicate (k - (t + min t (k - t))) 0) := by
        have h1 : List.take (min t (k - t)) (List.take t (List.replicate t (1 : Int) ++ List.replicate (k - t) 0)) = List.replicate (min t (k - t)) 1 := by
          simp [List.take_append]
        rw [h1]
        have h2 : k - t = min t (k - t) + (k - (t + min t (k - t))) := by omega
        have h3 := setV_rep (t := t) (m := min t (k - t)) (r := k - (t + min t (k - t)))
        rw [← h2] at h3
        exact h3
      simp (disch := first | omega | (simp only [LN]; omega)) only [↓EC, EW, seval, ↓reduceIte, false_imp_iff, ColV_def, lheap_def]
      (refine Split.mk (fun h => ?_) (fun h => ?_) <;> (try simp only [decide_eq_true_eq, decide_eq_false_iff_not, beq_iff_eq, bne_iff_ne, beq_eq_false_iff_ne, bne_eq_false_iff_eq, Bool.not_eq_true', Bool.not_eq_false', Bool.and_eq_true, Bool.or_eq_true, Bool.and_eq_false_iff, Bool.or_eq_false_iff, Int.not_lt, Int.not_le, Bool.false_eq_true, Bool.true_eq_false, false_and, and_false, true_and, and_true, or_false, false_or, or_true, true_or, not_true_eq_false, not_false_eq_true] at h))
      · (try simp (disch := first | omega | (simp only [LN]; omega)) only [↓EC, EW, seval, ↓reduceIte, false_imp_iff, e3])
        exact ⟨t + min t (k - t), by simp, rfl, ⟨by omega, by omega⟩, by omega⟩
      · (try simp (disch := first | omega | (simp only [LN]; omega)) only [↓EC, EW, seval, ↓reduceIte, false_imp_iff])
        have : t = k := by omega
        subst this
        simp
end Go.Proofs.Ytlfpiegadaiafaa.Sep
end
section
/- Passports of moves: the law. -/
namespace Go.Proofs.Ytlfpiegadaiafaa.Sep
open Go.RowKit
set_option linter.unusedVariables false
set_option linter.unusedSimpArgs false
set_option maxRecDepth 20000
set_option maxHeartbeats 1000000

/-- The rows of a passport. -/
def pmL (k f l : Int) : List (List Int) := if k = 2 then [[max f l, min f l], 2 :: List.replicate (f + l - 2).toNat 1, [f + l]] else [[1], [1], [1]]
def pmC (k f l : Int) : Int := if isMoveB k f l = true then (if 16 < degM (k, f, l) then 3 else 0) else 1
theorem pmC_0 {k f l : Int} (h : pmC k f l = 0) : isMoveB k f l = true ∧ degM (k, f, l) ≤ 16 := by
  unfold pmC at h
  split at h
  · split at h
    · omega
    · exact ⟨by assumption, by omega⟩
  · omega
theorem c_impl_PassportOfMove {k f l : Int} (h0 : pmC k f l = 0) : PSpec Try.prog 21 [.agg [.int .i64 k, .int .i64 f, .int .i64 l]] fun v => v = .tup [.own 80 1 3 (vo 2 (pmL k f l)), .int .i64 0] := by
  obtain ⟨hm, hd⟩ := pmC_0 h0
  have hm' := hm
  simp only [isMoveB, decide_eq_true_eq] at hm'
  have hdd : degM (k, f, l) = if 1 < f + l then f + l else 1 := rfl
  refine impl_PassportOfMove_f.f ?_
  simp (config := { maxSteps := 10000000 }) (disch := first | omega | (simp only [LN]; omega)) only [↓EC, EW, seval, ↓reduceIte, false_imp_iff, impl_PassportOfMove_F]
  refine pcd_v (c_impl_degree hm) ?_
  (try simp (disch := first | omega | (simp only [LN]; omega)) only [↓EC, EW, seval, ↓reduceIte, false_imp_iff])
  refine pcd_v c_impl_IsMove ?_
  (try simp (disch := first | omega | (simp only [LN]; omega)) only [↓EC, EW, seval, ↓reduceIte, false_imp_iff, hm])
  (refine Split.mk (fun h => ?_) (fun h => ?_) <;> (try simp only [decide_eq_true_eq, decide_eq_false_iff_not, beq_iff_eq, bne_iff_ne, beq_eq_false_iff_ne, bne_eq_false_iff_eq, Bool.not_eq_true', Bool.not_eq_false', Bool.and_eq_true, Bool.or_eq_true, Bool.and_eq_false_iff, Bool.or_eq_false_iff, Int.not_lt, Int.not_le, Bool.false_eq_true, Bool.true_eq_false, false_and, and_false, true_and, and_true, or_false, false_or, or_true, true_or, not_true_eq_false, not_false_eq_true] at h))
  · omega
  (try simp (disch := first | omega | (simp only [LN]; omega)) only [↓EC, EW, seval, ↓reduceIte, false_imp_iff])
  (refine Split.mk (fun h => ?_) (fun h => ?_) <;> (try simp only [decide_eq_true_eq, decide_eq_false_iff_not, beq_iff_eq, bne_iff_ne, beq_eq_false_iff_ne, bne_eq_false_iff_eq, Bool.not_eq_true', Bool.not_eq_false', Bool.and_eq_true, Bool.or_eq_true, Bool.and_eq_false_iff, Bool.or_eq_false_iff, Int.not_lt, Int.not_le, Bool.false_eq_true, Bool.true_eq_false, false_and, and_false, true_and, and_true, or_false, false_or, or_true, true_or, not_true_eq_false, not_false_eq_true] at h))
  · have hk : ¬ k = 2 := by intro e; rw [if_pos (by omega)] at hdd; omega
    unfold pmL; rw [if_neg hk]
    (try simp (disch := first | omega | (simp only [LN]; omega)) only [↓EC, EW, seval, ↓reduceIte, false_imp_iff])
    rfl
  · have hk : k = 2 := by
      rcases hm' with h' | h'
      · exact h'.1
      · rw [if_neg (by omega)] at hdd; omega
    have hs : degM (k, f, l) = f + l := by rw [hdd, if_pos (by omega)]
    rw [hs]
    have hr := c_Repeat (k := (f + l - 2).toNat) (by omega)
    have hn : (((f + l - 2).toNat : Nat) : Int) = f + l - 2 := by omega
    rw [hn] at hr
    (try simp (disch := first | omega | (simp only [LN]; omega)) only [↓EC, EW, seval, ↓reduceIte, false_imp_iff])
    refine pcd_o hr ?_
    (try simp (disch := first | omega | (simp only [LN]; omega)) only [↓EC, EW, seval, ↓reduceIte, false_imp_iff, List.length_replicate])
    refine pcmr [82] rfl ?_
    (try simp (disch := first | omega | (simp only [LN]; omega)) only [↓EC, EW, seval, ↓reduceIte, false_imp_iff])
    refine callMR_r c_descending rfl ?_
    (try simp (disch := first | omega | (simp only [LN]; omega)) only [↓EC, EW, seval, ↓reduceIte, false_imp_iff])
    unfold pmL; rw [if_pos hk]
    simp [vo, vi, Nat.add_comm]
theorem c_impl_degree_any {k f l : Int} : PSpec Try.prog 58 [.agg [.int .i64 k, .int .i64 f, .int .i64 l]] fun v => ∃ d, v = .int .i64 d := by
  refine impl_degree_f.f ?_
  simp (disch := first | omega | (simp only [LN]; omega)) only [↓EC, EW, seval, ↓reduceIte, false_imp_iff, impl_degree_F]
  exact ⟨_, rfl⟩
theorem c_impl_PassportOfMove_no {k f l : Int} (h0 : ¬ pmC k f l = 0) : PSpec Try.prog 21 [.agg [.int .i64 k, .int .i64 f, .int .i64 l]] fun v => v = .tup [.nils, .int .i64 (pmC k f l)] := by
  refine impl_PassportOfMove_f.f ?_
  simp (config := { maxSteps := 10000000 }) (disch := first | omega | (simp only [LN]; omega)) only [↓EC, EW, seval, ↓reduceIte, false_imp_iff, impl_PassportOfMove_F]
  cases hm : isMoveB k f l with
  | false =>
    refine pcd_r c_impl_degree_any ?_
    rintro _ ⟨d, rfl⟩
    (try simp (disch := first | omega | (simp only [LN]; omega)) only [↓EC, EW, seval, ↓reduceIte, false_imp_iff])
    refine pcd_v c_impl_IsMove ?_
    have e : pmC k f l = 1 := by unfold pmC; rw [if_neg (by rw [hm]; decide)]
    rw [e]
    (try simp (disch := first | omega | (simp only [LN]; omega)) only [↓EC, EW, seval, ↓reduceIte, false_imp_iff, hm])
  | true =>
    refine pcd_v (c_impl_degree hm) ?_
    (try simp (disch := first | omega | (simp only [LN]; omega)) only [↓EC, EW, seval, ↓reduceIte, false_imp_iff])
    refine pcd_v c_impl_IsMove ?_
    (try simp (disch := first | omega | (simp only [LN]; omega)) only [↓EC, EW, seval, ↓reduceIte, false_imp_iff, hm])
    have e : pmC k f l = 3 := by
      unfold pmC at h0 ⊢
      rw [if_pos hm] at h0 ⊢
      split at h0
      · rename_i h'; rw [if_pos h']
      · exact absurd rfl h0
    have hd : 16 < degM (k, f, l) := by
      unfold pmC at h0
      rw [if_pos hm] at h0
      split at h0
      · assumption
      · exact absurd rfl h0
    (refine Split.mk (fun h => ?_) (fun h => ?_) <;> (try simp only [decide_eq_true_eq, decide_eq_false_iff_not, beq_iff_eq, bne_iff_ne, beq_eq_false_iff_ne, bne_eq_false_iff_eq, Bool.not_eq_true', Bool.not_eq_false', Bool.and_eq_true, Bool.or_eq_true, Bool.and_eq_false_iff, Bool.or_eq_false_iff, Int.not_lt, Int.not_le, Bool.false_eq_true, Bool.true_eq_false, false_and, and_false, true_and, and_true, or_false, false_or, or_true, true_or, not_true_eq_false, not_false_eq_true] at h))
    · rw [e]
    · omega
theorem c_spec_PassportOfMove_no {k f l : Int} (h0 : ¬ pmC k f l = 0) : PSpec Try.prog 22 [.agg [.int .i64 k, .int .i64 f, .int .i64 l]] fun v => v = .tup [.nils, .int .i64 (pmC k f l)] := by
  refine spec_PassportOfMove_f.f ?_
  simp (config := { maxSteps := 10000000 }) (disch := first | omega | (simp only [LN]; omega)) only [↓EC, EW, seval, ↓reduceIte, false_imp_iff, spec_PassportOfMove_F]
  refine pcd_v c_spec_l10Move ?_
  cases hm : isMoveB k f l with
  | false =>
    have e : pmC k f l = 1 := by unfold pmC; rw [if_neg (by rw [hm]; decide)]
    rw [e]
    (try simp (disch := first | omega | (simp only [LN]; omega)) only [↓EC, EW, seval, ↓reduceIte, false_imp_iff, hm])
  | true =>
    (try simp (disch := first | omega | (simp only [LN]; omega)) only [↓EC, EW, seval, ↓reduceIte, false_imp_iff, hm])
    refine pcd_v (c_spec_l10Degree hm) ?_
    (try simp (disch := first | omega | (simp only [LN]; omega)) only [↓EC, EW, seval, ↓reduceIte, false_imp_iff])
    have e : pmC k f l = 3 := by
      unfold pmC at h0 ⊢
      rw [if_pos hm] at h0 ⊢
      split at h0
      · rename_i h'; rw [if_pos h']
      · exact absurd rfl h0
    have hd : 16 < degM (k, f, l) := by
      unfold pmC at h0
      rw [if_pos hm] at h0
      split at h0
      · assumption
      · exact absurd rfl h0
    (refine Split.mk (fun h => ?_) (fun h => ?_) <;> (try simp only [decide_eq_true_eq, decide_eq_false_iff_not, beq_iff_eq, bne_iff_ne, beq_eq_false_iff_ne, bne_eq_false_iff_eq, Bool.not_eq_true', Bool.not_eq_false', Bool.and_eq_true, Bool.or_eq_true, Bool.and_eq_false_iff, Bool.or_eq_false_iff, Int.not_lt, Int.not_le, Bool.false_eq_true, Bool.true_eq_false, false_and, and_false, true_and, and_true, or_false, false_or, or_true, true_or, not_true_eq_false, not_false_eq_true] at h))
    · rw [e]
    · omega
theorem c_spec_PassportOfMove {k f l : Int} (h0 : pmC k f l = 0) : PSpec Try.prog 22 [.agg [.int .i64 k, .int .i64 f, .int .i64 l]] fun v => v = .tup [.own 80 1 3 (vo 2 (pmL k f l)), .int .i64 0] := by
  obtain ⟨hm, hd⟩ := pmC_0 h0
  have hm' := hm
  simp only [isMoveB, decide_eq_true_eq] at hm'
  have hdd : degM (k, f, l) = if 1 < f + l then f + l else 1 := rfl
  refine spec_PassportOfMove_f.f ?_
  simp (config := { maxSteps := 10000000 }) (disch := first | omega | (simp only [LN]; omega)) only [↓EC, EW, seval, ↓reduceIte, false_imp_iff, spec_PassportOfMove_F]
  refine pcd_v c_spec_l10Move ?_
  (try simp (disch := first | omega | (simp only [LN]; omega)) only [↓EC, EW, seval, ↓reduceIte, false_imp_iff, hm])
  refine pcd_v (c_spec_l10Degree hm) ?_
  (try simp (disch := first | omega | (simp only [LN]; omega)) only [↓EC, EW, seval, ↓reduceIte, false_imp_iff])
  (refine Split.mk (fun h => ?_) (fun h => ?_) <;> (try simp only [decide_eq_true_eq, decide_eq_false_iff_not, beq_iff_eq, bne_iff_ne, beq_eq_false_iff_ne, bne_eq_false_iff_eq, Bool.not_eq_true', Bool.not_eq_false', Bool.and_eq_true, Bool.or_eq_true, Bool.and_eq_false_iff, Bool.or_eq_false_iff, Int.not_lt, Int.not_le, Bool.false_eq_true, Bool.true_eq_false, false_and, and_false, true_and, and_true, or_false, false_or, or_true, true_or, not_true_eq_false, not_false_eq_true] at h))
  · omega
  (try simp (disch := first | omega | (simp only [LN]; omega)) only [↓EC, EW, seval, ↓reduceIte, false_imp_iff])
  (refine Split.mk (fun h => ?_) (fun h => ?_) <;> (try simp only [decide_eq_true_eq, decide_eq_false_iff_not, beq_iff_eq, bne_iff_ne, beq_eq_false_iff_ne, bne_eq_false_iff_eq, Bool.not_eq_true', Bool.not_eq_false', Bool.and_eq_true, Bool.or_eq_true, Bool.and_eq_false_iff, Bool.or_eq_false_iff, Int.not_lt, Int.not_le, Bool.false_eq_true, Bool.true_eq_false, false_and, and_false, true_and, and_true, or_false, false_or, or_true, true_or, not_true_eq_false, not_false_eq_true] at h))
  · have hk : ¬ k = 2 := by omega
    unfold pmL; rw [if_neg hk]
    (try simp (disch := first | omega | (simp only [LN]; omega)) only [↓EC, EW, seval, ↓reduceIte, false_imp_iff])
    rfl
  · have hk : k = 2 := by omega
    rw [if_pos (by omega)] at hdd
    (try simp (disch := first | omega | (simp only [LN]; omega)) only [↓EC, EW, seval, ↓reduceIte, false_imp_iff])
    refine LP_of (σ := Nat) 100000 [(65, 36, 1)] (fun t => [.own 2 1 (1 + t) (vi .i64 (2 :: List.replicate t 1)), .int .i64 (f + l - t)]) (fun t => [[.int .i64 k, .int .i64 f, .int .i64 l]])
      (fun t => t ≤ (f + l - 2).toNat) (fun t => (f + l - 2).toNat - t) 0 (by simp [frameOk, names, lpz, sclp, scv, scvs, vi_nrf, vb_nrf, vt_nrf, v2_nrf, v3_nrf, nrfs, nrf, sc_vi, sc_vb, sc_vt, sc_v2, sc_v3, sc_vo, sc_vl, vo_nrf, vl_nrf, sc_vn, vn_nrf]) (Nat.zero_le _) ?_ ?_
    · simp (disch := first | omega | (simp only [LN]; omega)) only [↓EC, EW, seval, ↓reduceIte, false_imp_iff, ColV_def]
      simp [vi]
    · rintro t ht
      simp (disch := first | omega | (simp only [LN]; omega)) only [↓EC, EW, seval, ↓reduceIte, false_imp_iff, ColV_def, lheap_def]
      (refine Split.mk (fun h => ?_) (fun h => ?_) <;> (try simp only [decide_eq_true_eq, decide_eq_false_iff_not, beq_iff_eq, bne_iff_ne, beq_eq_false_iff_ne, bne_eq_false_iff_eq, Bool.not_eq_true', Bool.not_eq_false', Bool.and_eq_true, Bool.or_eq_true, Bool.and_eq_false_iff, Bool.or_eq_false_iff, Int.not_lt, Int.not_le, Bool.false_eq_true, Bool.true_eq_false, false_and, and_false, true_and, and_true, or_false, false_or, or_true, true_or, not_true_eq_false, not_false_eq_true] at h))
      · (try simp (disch := first | omega | (simp only [LN]; omega)) only [↓EC, EW, seval, ↓reduceIte, false_imp_iff, List.length_replicate])
        refine ⟨t + 1, ?_, by omega, by omega⟩
        simp [vi, List.replicate_succ', Nat.add_assoc]
        omega
      · have : t = (f + l - 2).toNat := by omega
        subst this
        (try simp (disch := first | omega | (simp only [LN]; omega)) only [↓EC, EW, seval, ↓reduceIte, false_imp_iff])
        unfold pmL; rw [if_pos hk]
        simp [vo, vi, Nat.add_comm]
        try omega
theorem pmL_lim {k f l : Int} (h : pmC k f l = 0) : (pmL k f l).length ≤ 16 ∧ ∀ r ∈ pmL k f l, r.length ≤ 16 := by
  obtain ⟨hm, hd⟩ := pmC_0 h
  have hdd : degM (k, f, l) = if 1 < f + l then f + l else 1 := rfl
  unfold pmL
  split
  · refine ⟨by simp, fun r hr => ?_⟩
    simp only [List.mem_cons, List.not_mem_nil, or_false] at hr
    rcases hr with rfl | rfl | rfl
    · simp
    · simp only [List.length_cons, List.length_replicate]
      split at hdd <;> omega
    · simp
  · exact ⟨by simp, fun r hr => by simp at hr; subst hr; simp⟩
end Go.Proofs.Ytlfpiegadaiafaa.Sep
end
section
/- Comparing lists in the laws; the Euler number of a passport. -/
namespace Go.Proofs.Ytlfpiegadaiafaa.Sep
open Go.RowKit
set_option linter.unusedVariables false
set_option linter.unusedSimpArgs false
set_option maxRecDepth 20000
set_option maxHeartbeats 1000000

theorem c_laws_likeInts {l m : List Int} (hl : l.length ≤ 1048576) : PSpec Try.prog 62 [.sl l.length (vi .i64 l), .sl m.length (vi .i64 m)] fun v => v = .bool (decide (l = m)) := by
  refine laws_likeInts_f.f ?_
  simp (disch := first | omega | (simp only [LN]; omega)) only [↓EC, EW, seval, ↓reduceIte, false_imp_iff, laws_likeInts_F]
  (refine Split.mk (fun h => ?_) (fun h => ?_) <;> (try simp only [decide_eq_true_eq, decide_eq_false_iff_not, beq_iff_eq, bne_iff_ne, beq_eq_false_iff_ne, bne_eq_false_iff_eq, Bool.not_eq_true', Bool.not_eq_false', Bool.and_eq_true, Bool.or_eq_true, Bool.and_eq_false_iff, Bool.or_eq_false_iff, Int.not_lt, Int.not_le, Bool.false_eq_true, Bool.true_eq_false, false_and, and_false, true_and, and_true, or_false, false_or, or_true, true_or, not_true_eq_false, not_false_eq_true] at h))
  · (try simp (disch := first | omega | (simp only [LN]; omega)) only [↓EC, EW, seval, ↓reduceIte, false_imp_iff])
    rw [eq_comm, V.bool.injEq, decide_eq_false_iff_not]
    intro e; subst e; omega
  · refine LP_of (σ := Nat) 100000 [] (fun s => [.int .i64 s]) (fun s => [])
      (fun s => s ≤ l.length ∧ ∀ j, j < s → gi l j = gi m j) (fun s => l.length - s) 0 (by simp [frameOk, names, lpz, sclp, scv, scvs, vi_nrf, vb_nrf, vt_nrf, v2_nrf, v3_nrf, nrfs, nrf, sc_vi, sc_vb, sc_vt, sc_v2, sc_v3, sc_vo, sc_vl, vo_nrf, vl_nrf, sc_vn, vn_nrf]) ⟨Nat.zero_le _, fun j hj => absurd hj (Nat.not_lt_zero j)⟩ ?_ ?_
    · simp (disch := first | omega | (simp only [LN]; omega)) only [↓EC, EW, seval, ↓reduceIte, false_imp_iff, ColV_def]
    · rintro i ⟨h1, h2⟩
      simp (disch := first | omega | (simp only [LN]; omega)) only [↓EC, EW, seval, ↓reduceIte, false_imp_iff, ColV_def, lheap_def]
      (refine Split.mk (fun h => ?_) (fun h => ?_) <;> (try simp only [decide_eq_true_eq, decide_eq_false_iff_not, beq_iff_eq, bne_iff_ne, beq_eq_false_iff_ne, bne_eq_false_iff_eq, Bool.not_eq_true', Bool.not_eq_false', Bool.and_eq_true, Bool.or_eq_true, Bool.and_eq_false_iff, Bool.or_eq_false_iff, Int.not_lt, Int.not_le, Bool.false_eq_true, Bool.true_eq_false, false_and, and_false, true_and, and_true, or_false, false_or, or_true, true_or, not_true_eq_false, not_false_eq_true] at h))
      · (try simp (disch := first | omega | (simp only [LN]; omega)) only [↓EC, EW, seval, ↓reduceIte, false_imp_iff])
        (refine Split.mk (fun h => ?_) (fun h => ?_) <;> (try simp only [decide_eq_true_eq, decide_eq_false_iff_not, beq_iff_eq, bne_iff_ne, beq_eq_false_iff_ne, bne_eq_false_iff_eq, Bool.not_eq_true', Bool.not_eq_false', Bool.and_eq_true, Bool.or_eq_true, Bool.and_eq_false_iff, Bool.or_eq_false_iff, Int.not_lt, Int.not_le, Bool.false_eq_true, Bool.true_eq_false, false_and, and_false, true_and, and_true, or_false, false_or, or_true, true_or, not_true_eq_false, not_false_eq_true] at h))
        · (try simp (disch := first | omega | (simp only [LN]; omega)) only [↓EC, EW, seval, ↓reduceIte, false_imp_iff])
          rw [eq_comm, V.bool.injEq, decide_eq_false_iff_not]
          intro e; subst e; exact h rfl
        · (try simp (disch := first | omega | (simp only [LN]; omega)) only [↓EC, EW, seval, ↓reduceIte, false_imp_iff])
          refine ⟨i + 1, rfl, ⟨by omega, fun j hj => ?_⟩, by omega⟩
          by_cases e : j = i
          · subst e; exact h
          · exact h2 j (by omega)
      · (try simp (disch := first | omega | (simp only [LN]; omega)) only [↓EC, EW, seval, ↓reduceIte, false_imp_iff])
        rw [eq_comm, V.bool.injEq, decide_eq_true_eq]
        exact gi_ext (by omega) fun j hj => h2 j (by omega)

theorem c_laws_likeInts_nil : PSpec Try.prog 62 [.nils, .nils] fun v => v = .bool true := by
  refine laws_likeInts_f.f ?_
  simp (disch := first | omega | (simp only [LN]; omega)) only [↓EC, EW, seval, ↓reduceIte, false_imp_iff, laws_likeInts_F]
  refine LP_of (σ := Unit) 100000 [] (fun s => [.int .i64 0]) (fun s => []) (fun s => True) (fun s => 0) () (by simp [frameOk, names, lpz, sclp, scv, scvs, vi_nrf, vb_nrf, vt_nrf, v2_nrf, v3_nrf, nrfs, nrf, sc_vi, sc_vb, sc_vt, sc_v2, sc_v3, sc_vo, sc_vl, vo_nrf, vl_nrf, sc_vn, vn_nrf]) trivial ?_ ?_
  · simp (disch := first | omega | (simp only [LN]; omega)) only [↓EC, EW, seval, ↓reduceIte, false_imp_iff, ColV_def]
  · rintro _ _
    simp (disch := first | omega | (simp only [LN]; omega)) only [↓EC, EW, seval, ↓reduceIte, false_imp_iff, ColV_def, lheap_def]
theorem c_laws_lists9 {ls ms : List (List Int)} (hl : ls.length ≤ 1048576) (hls : ∀ l ∈ ls, l.length ≤ 1048576) : PSpec Try.prog 23 [.sl ls.length (vl ls), .sl ms.length (vl ms)] fun v => v = .bool (decide (ls = ms)) := by
  refine laws_lists9_f.f ?_
  simp (disch := first | omega | (simp only [LN]; omega)) only [↓EC, EW, seval, ↓reduceIte, false_imp_iff, laws_lists9_F]
  (refine Split.mk (fun h => ?_) (fun h => ?_) <;> (try simp only [decide_eq_true_eq, decide_eq_false_iff_not, beq_iff_eq, bne_iff_ne, beq_eq_false_iff_ne, bne_eq_false_iff_eq, Bool.not_eq_true', Bool.not_eq_false', Bool.and_eq_true, Bool.or_eq_true, Bool.and_eq_false_iff, Bool.or_eq_false_iff, Int.not_lt, Int.not_le, Bool.false_eq_true, Bool.true_eq_false, false_and, and_false, true_and, and_true, or_false, false_or, or_true, true_or, not_true_eq_false, not_false_eq_true] at h))
  · (try simp (disch := first | omega | (simp only [LN]; omega)) only [↓EC, EW, seval, ↓reduceIte, false_imp_iff])
    rw [eq_comm, V.bool.injEq, decide_eq_false_iff_not]
    intro e; subst e; omega
  · refine LP_of (σ := Nat) 100000 [] (fun s => [.int .i64 s]) (fun s => [])
      (fun s => s ≤ ls.length ∧ ∀ j, j < s → gl ls j = gl ms j) (fun s => ls.length - s) 0 (by simp [frameOk, names, lpz, sclp, scv, scvs, vi_nrf, vb_nrf, vt_nrf, v2_nrf, v3_nrf, nrfs, nrf, sc_vi, sc_vb, sc_vt, sc_v2, sc_v3, sc_vo, sc_vl, vo_nrf, vl_nrf, sc_vn, vn_nrf]) ⟨Nat.zero_le _, fun j hj => absurd hj (Nat.not_lt_zero j)⟩ ?_ ?_
    · simp (disch := first | omega | (simp only [LN]; omega)) only [↓EC, EW, seval, ↓reduceIte, false_imp_iff, ColV_def]
    · rintro i ⟨h1, h2⟩
      simp (disch := first | omega | (simp only [LN]; omega)) only [↓EC, EW, seval, ↓reduceIte, false_imp_iff, ColV_def, lheap_def]
      (refine Split.mk (fun h => ?_) (fun h => ?_) <;> (try simp only [decide_eq_true_eq, decide_eq_false_iff_not, beq_iff_eq, bne_iff_ne, beq_eq_false_iff_ne, bne_eq_false_iff_eq, Bool.not_eq_true', Bool.not_eq_false', Bool.and_eq_true, Bool.or_eq_true, Bool.and_eq_false_iff, Bool.or_eq_false_iff, Int.not_lt, Int.not_le, Bool.false_eq_true, Bool.true_eq_false, false_and, and_false, true_and, and_true, or_false, false_or, or_true, true_or, not_true_eq_false, not_false_eq_true] at h))
      · (try simp (disch := first | omega | (simp only [LN]; omega)) only [↓EC, EW, seval, ↓reduceIte, false_imp_iff])
        refine pcd_v (c_laws_likeInts (hls _ (gl_mem (by omega)))) ?_
        (try simp (disch := first | omega | (simp only [LN]; omega)) only [↓EC, EW, seval, ↓reduceIte, false_imp_iff])
        (refine Split.mk (fun h => ?_) (fun h => ?_) <;> (try simp only [decide_eq_true_eq, decide_eq_false_iff_not, beq_iff_eq, bne_iff_ne, beq_eq_false_iff_ne, bne_eq_false_iff_eq, Bool.not_eq_true', Bool.not_eq_false', Bool.and_eq_true, Bool.or_eq_true, Bool.and_eq_false_iff, Bool.or_eq_false_iff, Int.not_lt, Int.not_le, Bool.false_eq_true, Bool.true_eq_false, false_and, and_false, true_and, and_true, or_false, false_or, or_true, true_or, not_true_eq_false, not_false_eq_true] at h))
        · (try simp (disch := first | omega | (simp only [LN]; omega)) only [↓EC, EW, seval, ↓reduceIte, false_imp_iff])
          rw [eq_comm, V.bool.injEq, decide_eq_false_iff_not]
          intro e; subst e; exact h rfl
        · (try simp (disch := first | omega | (simp only [LN]; omega)) only [↓EC, EW, seval, ↓reduceIte, false_imp_iff])
          refine ⟨i + 1, rfl, ⟨by omega, fun j hj => ?_⟩, by omega⟩
          by_cases e : j = i
          · subst e; exact h
          · exact h2 j (by omega)
      · (try simp (disch := first | omega | (simp only [LN]; omega)) only [↓EC, EW, seval, ↓reduceIte, false_imp_iff])
        rw [eq_comm, V.bool.injEq, decide_eq_true_eq]
        exact gl_ext (by omega) fun j hj => h2 j (by omega)
theorem c_laws_lists9_nil : PSpec Try.prog 23 [.nils, .nils] fun v => v = .bool true := by
  refine laws_lists9_f.f ?_
  simp (disch := first | omega | (simp only [LN]; omega)) only [↓EC, EW, seval, ↓reduceIte, false_imp_iff, laws_lists9_F]
  refine LP_of (σ := Unit) 100000 [] (fun s => [.int .i64 0]) (fun s => []) (fun s => True) (fun s => 0) () (by simp [frameOk, names, lpz, sclp, scv, scvs, vi_nrf, vb_nrf, vt_nrf, v2_nrf, v3_nrf, nrfs, nrf, sc_vi, sc_vb, sc_vt, sc_v2, sc_v3, sc_vo, sc_vl, vo_nrf, vl_nrf, sc_vn, vn_nrf]) trivial ?_ ?_
  · simp (disch := first | omega | (simp only [LN]; omega)) only [↓EC, EW, seval, ↓reduceIte, false_imp_iff, ColV_def]
  · rintro _ _
    simp (disch := first | omega | (simp only [LN]; omega)) only [↓EC, EW, seval, ↓reduceIte, false_imp_iff, ColV_def, lheap_def]
theorem c_laws_big {x : Value} {l : List Int} : PSpec Try.prog 5 [.fz x l] fun v => v = .bool (decide (4096 < (l.length : Int))) := by
  refine laws_big_f.f ?_
  simp (disch := first | omega | (simp only [LN]; omega)) only [↓EC, EW, seval, ↓reduceIte, false_imp_iff, laws_big_F]
/-! ### Passports -/
def tyOK (l : List Int) (n : Int) : Prop := (∀ a ∈ l, 1 ≤ a ∧ a ≤ 16) ∧ (∀ i, i + 1 < l.length → gi l (i + 1) ≤ gi l i) ∧ l.sum = n ∧ n ≤ 16
theorem sum_nn : ∀ {l : List Int}, (∀ a ∈ l, 1 ≤ a) → (l.length : Int) ≤ l.sum
  | [], _ => by simp
  | a :: l, h => by
    have h1 := h a (by simp)
    have h2 := sum_nn (l := l) fun b hb => h b (by simp [hb])
    simp only [List.sum_cons, List.length_cons]; omega
theorem sum_takeS {l : List Int} {i : Nat} (hi : i < l.length) : (l.take (i + 1)).sum = (l.take i).sum + gi l i := by
  rw [List.take_succ_eq_append_getElem hi, List.sum_append, gi, List.getD, List.getElem?_eq_getElem hi]
  simp only [List.sum_cons, List.sum_nil, Option.getD_some, Int.add_zero]
theorem gi_memL {l : List Int} {i : Nat} (hi : i < l.length) : gi l i ∈ l := by rw [gi, List.getD, List.getElem?_eq_getElem hi]; exact List.getElem_mem hi
theorem sum_take_le {l : List Int} (h : ∀ a ∈ l, 1 ≤ a) (i : Nat) : (l.take i).sum ≤ l.sum ∧ 0 ≤ (l.take i).sum := by
  have e : l.sum = (l.take i).sum + (l.drop i).sum := by rw [← List.sum_append, List.take_append_drop]
  have h1 := sum_nn (l := l.drop i) fun a ha => h a (List.mem_of_mem_drop ha)
  have h2 := sum_nn (l := l.take i) fun a ha => h a (List.mem_of_mem_take ha)
  omega
theorem c_impl_sumOfType {l : List Int} {n : Int} (h : tyOK l n) : PSpec Try.prog 81 [.sl l.length (vi .i64 l)] fun v => v = .int .i64 n := by
  obtain ⟨h1, h2, rfl, h4⟩ := h
  have hp : ∀ a ∈ l, 1 ≤ a := fun a ha => (h1 a ha).1
  have hlen := sum_nn hp
  refine impl_sumOfType_f.f ?_
  simp (disch := first | omega | (simp only [LN]; omega)) only [↓EC, EW, seval, ↓reduceIte, false_imp_iff, impl_sumOfType_F]
  refine LP_of (σ := Nat) 100000 [] (fun s => [.int .i64 (l.take s).sum, .int .i64 s]) (fun s => []) (fun s => s ≤ l.length) (fun s => l.length - s) 0 (by simp [frameOk, names, lpz, sclp, scv, scvs, vi_nrf, vb_nrf, vt_nrf, v2_nrf, v3_nrf, nrfs, nrf, sc_vi, sc_vb, sc_vt, sc_v2, sc_v3, sc_vo, sc_vl, vo_nrf, vl_nrf, sc_vn, vn_nrf]) (Nat.zero_le _) ?_ ?_
  · simp (disch := first | omega | (simp only [LN]; omega)) only [↓EC, EW, seval, ↓reduceIte, false_imp_iff, ColV_def]
    rfl
  · rintro i hi
    simp (disch := first | omega | (simp only [LN]; omega)) only [↓EC, EW, seval, ↓reduceIte, false_imp_iff, ColV_def, lheap_def]
    (refine Split.mk (fun h => ?_) (fun h => ?_) <;> (try simp only [decide_eq_true_eq, decide_eq_false_iff_not, beq_iff_eq, bne_iff_ne, beq_eq_false_iff_ne, bne_eq_false_iff_eq, Bool.not_eq_true', Bool.not_eq_false', Bool.and_eq_true, Bool.or_eq_true, Bool.and_eq_false_iff, Bool.or_eq_false_iff, Int.not_lt, Int.not_le, Bool.false_eq_true, Bool.true_eq_false, false_and, and_false, true_and, and_true, or_false, false_or, or_true, true_or, not_true_eq_false, not_false_eq_true] at h))
    · have hlt : i < l.length := by omega
      have hg := h1 _ (gi_memL hlt)
      have hs := sum_takeS hlt
      have ht := sum_take_le hp (i + 1)
      have ht0 := sum_take_le hp i
      have hd := h2 (i - 1)
      (try simp (disch := first | omega | (simp only [LN]; omega)) only [↓EC, EW, seval, ↓reduceIte, false_imp_iff])
      (refine Split.mk (fun h => ?_) (fun h => ?_) <;> (try simp only [decide_eq_true_eq, decide_eq_false_iff_not, beq_iff_eq, bne_iff_ne, beq_eq_false_iff_ne, bne_eq_false_iff_eq, Bool.not_eq_true', Bool.not_eq_false', Bool.and_eq_true, Bool.or_eq_true, Bool.and_eq_false_iff, Bool.or_eq_false_iff, Int.not_lt, Int.not_le, Bool.false_eq_true, Bool.true_eq_false, false_and, and_false, true_and, and_true, or_false, false_or, or_true, true_or, not_true_eq_false, not_false_eq_true] at h))
      · omega
      · (try simp (disch := first | omega | (simp only [LN]; omega)) only [↓EC, EW, seval, ↓reduceIte, false_imp_iff])
        (refine Split.mk (fun h => ?_) (fun h => ?_) <;> (try simp only [decide_eq_true_eq, decide_eq_false_iff_not, beq_iff_eq, bne_iff_ne, beq_eq_false_iff_ne, bne_eq_false_iff_eq, Bool.not_eq_true', Bool.not_eq_false', Bool.and_eq_true, Bool.or_eq_true, Bool.and_eq_false_iff, Bool.or_eq_false_iff, Int.not_lt, Int.not_le, Bool.false_eq_true, Bool.true_eq_false, false_and, and_false, true_and, and_true, or_false, false_or, or_true, true_or, not_true_eq_false, not_false_eq_true] at h))
        · omega
        · (try simp (disch := first | omega | (simp only [LN]; omega)) only [↓EC, EW, seval, ↓reduceIte, false_imp_iff])
          have fin : ∃ s' : Nat, [V.int .i64 ((l.take i).sum + gi l i), V.int .i64 ((i : Int) + 1)] = [V.int .i64 (l.take s').sum, V.int .i64 (s' : Int)] ∧ s' ≤ l.length ∧ l.length - s' < l.length - i :=
            ⟨i + 1, by rw [hs]; simp, by omega, by omega⟩
          (refine Split.mk (fun h => ?_) (fun h => ?_) <;> (try simp only [decide_eq_true_eq, decide_eq_false_iff_not, beq_iff_eq, bne_iff_ne, beq_eq_false_iff_ne, bne_eq_false_iff_eq, Bool.not_eq_true', Bool.not_eq_false', Bool.and_eq_true, Bool.or_eq_true, Bool.and_eq_false_iff, Bool.or_eq_false_iff, Int.not_lt, Int.not_le, Bool.false_eq_true, Bool.true_eq_false, false_and, and_false, true_and, and_true, or_false, false_or, or_true, true_or, not_true_eq_false, not_false_eq_true] at h))
          · have hd' : gi l i ≤ gi l ((i : Int) - 1).toNat := by
              have := hd (by omega)
              rw [show i - 1 + 1 = i by omega] at this
              rw [show ((i : Int) - 1).toNat = i - 1 by omega]; exact this
            (try simp (disch := first | omega | (simp only [LN]; omega)) only [↓EC, EW, seval, ↓reduceIte, false_imp_iff])
            (refine Split.mk (fun h => ?_) (fun h => ?_) <;> (try simp only [decide_eq_true_eq, decide_eq_false_iff_not, beq_iff_eq, bne_iff_ne, beq_eq_false_iff_ne, bne_eq_false_iff_eq, Bool.not_eq_true', Bool.not_eq_false', Bool.and_eq_true, Bool.or_eq_true, Bool.and_eq_false_iff, Bool.or_eq_false_iff, Int.not_lt, Int.not_le, Bool.false_eq_true, Bool.true_eq_false, false_and, and_false, true_and, and_true, or_false, false_or, or_true, true_or, not_true_eq_false, not_false_eq_true] at h))
            · omega
            · (try simp (disch := first | omega | (simp only [LN]; omega)) only [↓EC, EW, seval, ↓reduceIte, false_imp_iff])
              (refine Split.mk (fun h => ?_) (fun h => ?_) <;> (try simp only [decide_eq_true_eq, decide_eq_false_iff_not, beq_iff_eq, bne_iff_ne, beq_eq_false_iff_ne, bne_eq_false_iff_eq, Bool.not_eq_true', Bool.not_eq_false', Bool.and_eq_true, Bool.or_eq_true, Bool.and_eq_false_iff, Bool.or_eq_false_iff, Int.not_lt, Int.not_le, Bool.false_eq_true, Bool.true_eq_false, false_and, and_false, true_and, and_true, or_false, false_or, or_true, true_or, not_true_eq_false, not_false_eq_true] at h))
              · omega
              · exact fin
          · (refine Split.mk (fun h => ?_) (fun h => ?_) <;> (try simp only [decide_eq_true_eq, decide_eq_false_iff_not, beq_iff_eq, bne_iff_ne, beq_eq_false_iff_ne, bne_eq_false_iff_eq, Bool.not_eq_true', Bool.not_eq_false', Bool.and_eq_true, Bool.or_eq_true, Bool.and_eq_false_iff, Bool.or_eq_false_iff, Int.not_lt, Int.not_le, Bool.false_eq_true, Bool.true_eq_false, false_and, and_false, true_and, and_true, or_false, false_or, or_true, true_or, not_true_eq_false, not_false_eq_true] at h))
            · omega
            · exact fin
    · have e : i = l.length := by omega
      subst e
      rw [List.take_length]
      (try simp (disch := first | omega | (simp only [LN]; omega)) only [↓EC, EW, seval, ↓reduceIte, false_imp_iff])
theorem c_impl_sumOfPassport {a b c : List Int} {n : Int} (ha : tyOK a n) (hb : tyOK b n) (hc : tyOK c n) : PSpec Try.prog 63 [.sl 3 (vl [a, b, c])] fun v => v = .int .i64 n := by
  have ga : gl [a, b, c] 0 = a := rfl
  have gb : gl [a, b, c] 1 = b := rfl
  have gc : gl [a, b, c] 2 = c := rfl
  refine impl_sumOfPassport_f.f ?_
  simp (disch := first | omega | (simp only [LN]; omega)) only [↓EC, EW, seval, ↓reduceIte, false_imp_iff, impl_sumOfPassport_F, ga, gb, gc]
  refine pcd_v (c_impl_sumOfType ha) ?_
  (try simp (disch := first | omega | (simp only [LN]; omega)) only [↓EC, EW, seval, ↓reduceIte, false_imp_iff, ga, gb, gc])
  refine pcd_v (c_impl_sumOfType hb) ?_
  (try simp (disch := first | omega | (simp only [LN]; omega)) only [↓EC, EW, seval, ↓reduceIte, false_imp_iff, ga, gb, gc, bne_self_eq_false])
  refine pcd_v (c_impl_sumOfType hc) ?_
  (try simp (disch := first | omega | (simp only [LN]; omega)) only [↓EC, EW, seval, ↓reduceIte, false_imp_iff, ga, gb, gc, bne_self_eq_false])
theorem c_impl_eulerOf {a b c : List Int} {n : Int} (ha : a.length ≤ 1000) (hb : b.length ≤ 1000) (hc : c.length ≤ 1000) (hn : 0 ≤ n ∧ n ≤ 1000) : PSpec Try.prog 64 [.sl 3 (vl [a, b, c]), .int .i64 n] fun v => v = .int .i64 (a.length + b.length + c.length - n) := by
  have ga : gl [a, b, c] 0 = a := rfl
  have gb : gl [a, b, c] 1 = b := rfl
  have gc : gl [a, b, c] 2 = c := rfl
  refine impl_eulerOf_f.f ?_
  simp (disch := first | omega | (simp only [LN]; omega)) only [↓EC, EW, seval, ↓reduceIte, false_imp_iff, impl_eulerOf_F, ga, gb, gc]
theorem c_impl_EulerOfPassport {a b c : List Int} {n : Int} (ha : tyOK a n) (hb : tyOK b n) (hc : tyOK c n) (hn : 1 ≤ n) : PSpec Try.prog 24 [.sl 3 (vl [a, b, c])] fun v => v = .tup [.int .i64 (a.length + b.length + c.length - n), .int .i64 0] := by
  have la := sum_nn (l := a) fun x hx => (ha.1 x hx).1
  have lb := sum_nn (l := b) fun x hx => (hb.1 x hx).1
  have lc := sum_nn (l := c) fun x hx => (hc.1 x hx).1
  have sa := ha.2.2
  have sb := hb.2.2
  have sc := hc.2.2
  refine impl_EulerOfPassport_f.f ?_
  simp (disch := first | omega | (simp only [LN]; omega)) only [↓EC, EW, seval, ↓reduceIte, false_imp_iff, impl_EulerOfPassport_F]
  refine pcd_v (c_impl_sumOfPassport ha hb hc) ?_
  (try simp (disch := first | omega | (simp only [LN]; omega)) only [↓EC, EW, seval, ↓reduceIte, false_imp_iff])
  (refine Split.mk (fun h => ?_) (fun h => ?_) <;> (try simp only [decide_eq_true_eq, decide_eq_false_iff_not, beq_iff_eq, bne_iff_ne, beq_eq_false_iff_ne, bne_eq_false_iff_eq, Bool.not_eq_true', Bool.not_eq_false', Bool.and_eq_true, Bool.or_eq_true, Bool.and_eq_false_iff, Bool.or_eq_false_iff, Int.not_lt, Int.not_le, Bool.false_eq_true, Bool.true_eq_false, false_and, and_false, true_and, and_true, or_false, false_or, or_true, true_or, not_true_eq_false, not_false_eq_true] at h))
  · omega
  refine pcd_v (c_impl_eulerOf (a := a) (b := b) (c := c) (n := n) (by omega) (by omega) (by omega) (by omega)) ?_
  (try simp (disch := first | omega | (simp only [LN]; omega)) only [↓EC, EW, seval, ↓reduceIte, false_imp_iff])
end Go.Proofs.Ytlfpiegadaiafaa.Sep
end
