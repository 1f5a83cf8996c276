/- Moves one after the other: RunMoves. -/
import Derived.Test.YtppkppmkjjbbgaaC13
import Derived.Test.YtppkppmkjjbbgaaC64
namespace Go.Proofs.Ytppkppmkjjbbgaa.Sep
open Go.RowKit
set_option linter.unusedVariables false
set_option linter.unusedSimpArgs false
set_option maxRecDepth 20000
set_option maxHeartbeats 4000000

def runO : List (Int × Int × Int) → Int × Int → Option (Int × Int)
  | [], x => some x
  | a :: l, x => (mvO a.1 a.2.1 a.2.2 x.1 x.2).bind (runO l)
theorem runO_drop {l : List (Int × Int × Int)} {i : Nat} (hi : i < l.length) (x : Int × Int) : runO (l.drop i) x = (mvO (g3 l i).1 (g3 l i).2.1 (g3 l i).2.2 x.1 x.2).bind (runO (l.drop (i + 1))) := by
  rw [drop_getD (d := (0, 0, 0)) hi]; rfl
def rmV (l : List (Int × Int × Int)) (n d : Int) : V :=
  if isFr n d = true then (if movesC l = 0 then frV (runO l (n, d)) else .tup [.agg [.int .i64 0, .int .i64 0], .int .i64 (movesC l)]) else .tup [.agg [.int .i64 0, .int .i64 0], .int .i64 1]
theorem c_impl_RunMoves {l : List (Int × Int × Int)} {n d : Int} (hl : l.length ≤ 1048576) : PSpec Try.prog 23 [.sl l.length (v3 .i64 l), .agg [.int .i64 n, .int .i64 d]] fun v => v = rmV l n d := by
  refine impl_RunMoves_f.f ?_
  simp (disch := first | omega | (simp only [List.length_append, List.length_cons, List.length_nil, List.length_replicate, List.length_set, List.length_take, List.length_drop, vi_len, vb_len, vo_len, vl_len, vn_len]; omega)) only [↓EC, EV, EL, E2, E3, ER, seval, ↓reduceIte, false_imp_iff, impl_RunMoves_F]
  (refine pcd_v (c_impl_IsFraction) ?_; (try simp (disch := first | omega | (simp only [List.length_append, List.length_cons, List.length_nil, List.length_replicate, List.length_set, List.length_take, List.length_drop, vi_len, vb_len, vo_len, vl_len, vn_len]; omega)) only [↓EC, EV, EL, E2, E3, ER, seval, ↓reduceIte, false_imp_iff]))
  (refine Split.mk (fun h => ?_) (fun h => ?_) <;> (try simp only [decide_eq_true_eq, decide_eq_false_iff_not, beq_iff_eq, bne_iff_ne, beq_eq_false_iff_ne, bne_eq_false_iff_eq, Bool.not_eq_true', Bool.not_eq_false', Bool.and_eq_true, Bool.or_eq_true, Bool.and_eq_false_iff, Bool.or_eq_false_iff, Int.not_lt, Int.not_le, Bool.false_eq_true, Bool.true_eq_false, false_and, and_false, true_and, and_true, or_false, false_or, or_true, true_or, not_true_eq_false, not_false_eq_true] at h))
  · unfold rmV; rw [if_neg (by simp_all)]
  · have hx : isFr n d = true := h
    (try simp (disch := first | omega | (simp only [List.length_append, List.length_cons, List.length_nil, List.length_replicate, List.length_set, List.length_take, List.length_drop, vi_len, vb_len, vo_len, vl_len, vn_len]; omega)) only [↓EC, EV, EL, E2, E3, ER, seval, ↓reduceIte, false_imp_iff])
    (refine pcd_v (c_impl_movesCode hl) ?_; (try simp (disch := first | omega | (simp only [List.length_append, List.length_cons, List.length_nil, List.length_replicate, List.length_set, List.length_take, List.length_drop, vi_len, vb_len, vo_len, vl_len, vn_len]; omega)) only [↓EC, EV, EL, E2, E3, ER, seval, ↓reduceIte, false_imp_iff]))
    (refine Split.mk (fun h => ?_) (fun h => ?_) <;> (try simp only [decide_eq_true_eq, decide_eq_false_iff_not, beq_iff_eq, bne_iff_ne, beq_eq_false_iff_ne, bne_eq_false_iff_eq, Bool.not_eq_true', Bool.not_eq_false', Bool.and_eq_true, Bool.or_eq_true, Bool.and_eq_false_iff, Bool.or_eq_false_iff, Int.not_lt, Int.not_le, Bool.false_eq_true, Bool.true_eq_false, false_and, and_false, true_and, and_true, or_false, false_or, or_true, true_or, not_true_eq_false, not_false_eq_true] at h))
    · unfold rmV; rw [if_pos hx, if_neg h]
    · have hc : movesC l = 0 := by simpa using h
      (try simp (disch := first | omega | (simp only [List.length_append, List.length_cons, List.length_nil, List.length_replicate, List.length_set, List.length_take, List.length_drop, vi_len, vb_len, vo_len, vl_len, vn_len]; omega)) only [↓EC, EV, EL, E2, E3, ER, seval, ↓reduceIte, false_imp_iff])
      unfold rmV
      rw [if_pos hx, if_pos hc]
      refine LP_of (σ := Nat × Int × Int) 100000 [(67, 36, 1), (68, 36, 1)] (fun s => [.int .i64 s.1]) (fun s => [[.int .i64 s.2.1, .int .i64 s.2.2], [.int .i64 0, .int .i64 0]])
        (fun s => s.1 ≤ l.length ∧ isFr s.2.1 s.2.2 = true ∧ runO (l.drop s.1) s.2 = runO l (n, d)) (fun s => l.length - s.1) (0, n, d) (by simp [frameOk, names, lpz, sclp, scv, scvs, vi_nrf, vb_nrf, vt_nrf, v2_nrf, v3_nrf, nrfs, nrf, sc_vi, sc_vb, sc_vt, sc_v2, sc_v3, sc_vo, sc_vl, vo_nrf, vl_nrf, sc_vn, vn_nrf]) ⟨Nat.zero_le _, hx, rfl⟩ ?_ ?_
      · simp (disch := first | omega | (simp only [List.length_append, List.length_cons, List.length_nil, List.length_replicate, List.length_set, List.length_take, List.length_drop, vi_len, vb_len, vo_len, vl_len, vn_len]; omega)) only [↓EC, EV, EL, E2, E3, ER, seval, ↓reduceIte, false_imp_iff, ColV_def]
      · rintro ⟨i, a, b⟩ ⟨h1, h2, h3⟩
        simp only at h1 h2 h3
        simp (disch := first | omega | (simp only [List.length_append, List.length_cons, List.length_nil, List.length_replicate, List.length_set, List.length_take, List.length_drop, vi_len, vb_len, vo_len, vl_len, vn_len]; omega)) only [↓EC, EV, EL, E2, E3, ER, seval, ↓reduceIte, false_imp_iff, ColV_def, lheap_def]
        (refine Split.mk (fun h => ?_) (fun h => ?_) <;> (try simp only [decide_eq_true_eq, decide_eq_false_iff_not, beq_iff_eq, bne_iff_ne, beq_eq_false_iff_ne, bne_eq_false_iff_eq, Bool.not_eq_true', Bool.not_eq_false', Bool.and_eq_true, Bool.or_eq_true, Bool.and_eq_false_iff, Bool.or_eq_false_iff, Int.not_lt, Int.not_le, Bool.false_eq_true, Bool.true_eq_false, false_and, and_false, true_and, and_true, or_false, false_or, or_true, true_or, not_true_eq_false, not_false_eq_true] at h))
        · have hi : i < l.length := by omega
          have hm : isMoveB (g3 l i).1 (g3 l i).2.1 (g3 l i).2.2 = true := movesC_mv hc hi
          rw [runO_drop hi] at h3
          (try simp (disch := first | omega | (simp only [List.length_append, List.length_cons, List.length_nil, List.length_replicate, List.length_set, List.length_take, List.length_drop, vi_len, vb_len, vo_len, vl_len, vn_len]; omega)) only [↓EC, EV, EL, E2, E3, ER, seval, ↓reduceIte, false_imp_iff])
          refine pcd_v (c_impl_move hm h2) ?_
          rcases frV_cases (mvO (g3 l i).1 (g3 l i).2.1 (g3 l i).2.2 a b) with ⟨x, y, ho⟩ | ho
          · have hy := mvO_fr h2 hm ho
            rw [ho] at h3 ⊢
            (try simp (disch := first | omega | (simp only [List.length_append, List.length_cons, List.length_nil, List.length_replicate, List.length_set, List.length_take, List.length_drop, vi_len, vb_len, vo_len, vl_len, vn_len]; omega)) only [↓EC, EV, EL, E2, E3, ER, seval, ↓reduceIte, false_imp_iff, frV])
            exact ⟨(i + 1, x, y), by simp, rfl, ⟨by simp only; omega, hy, h3⟩, by simp only; omega⟩
          · rw [ho] at h3 ⊢
            rw [← h3]
            (try simp (disch := first | omega | (simp only [List.length_append, List.length_cons, List.length_nil, List.length_replicate, List.length_set, List.length_take, List.length_drop, vi_len, vb_len, vo_len, vl_len, vn_len]; omega)) only [↓EC, EV, EL, E2, E3, ER, seval, ↓reduceIte, false_imp_iff, frV])
            try rfl
        · (try simp (disch := first | omega | (simp only [List.length_append, List.length_cons, List.length_nil, List.length_replicate, List.length_set, List.length_take, List.length_drop, vi_len, vb_len, vo_len, vl_len, vn_len]; omega)) only [↓EC, EV, EL, E2, E3, ER, seval, ↓reduceIte, false_imp_iff])
          rw [List.drop_of_length_le (by omega)] at h3
          rw [← h3]
          rfl
theorem c_spec_RunMoves {l : List (Int × Int × Int)} {n d : Int} (hl : l.length ≤ 1048576) : PSpec Try.prog 21 [.sl l.length (v3 .i64 l), .agg [.int .i64 n, .int .i64 d]] fun v => v = rmV l n d := by
  refine spec_RunMoves_f.f ?_
  simp (disch := first | omega | (simp only [List.length_append, List.length_cons, List.length_nil, List.length_replicate, List.length_set, List.length_take, List.length_drop, vi_len, vb_len, vo_len, vl_len, vn_len]; omega)) only [↓EC, EV, EL, E2, E3, ER, seval, ↓reduceIte, false_imp_iff, spec_RunMoves_F]
  (refine pcd_v (c_spec_l10Is) ?_; (try simp (disch := first | omega | (simp only [List.length_append, List.length_cons, List.length_nil, List.length_replicate, List.length_set, List.length_take, List.length_drop, vi_len, vb_len, vo_len, vl_len, vn_len]; omega)) only [↓EC, EV, EL, E2, E3, ER, seval, ↓reduceIte, false_imp_iff]))
  (refine Split.mk (fun h => ?_) (fun h => ?_) <;> (try simp only [decide_eq_true_eq, decide_eq_false_iff_not, beq_iff_eq, bne_iff_ne, beq_eq_false_iff_ne, bne_eq_false_iff_eq, Bool.not_eq_true', Bool.not_eq_false', Bool.and_eq_true, Bool.or_eq_true, Bool.and_eq_false_iff, Bool.or_eq_false_iff, Int.not_lt, Int.not_le, Bool.false_eq_true, Bool.true_eq_false, false_and, and_false, true_and, and_true, or_false, false_or, or_true, true_or, not_true_eq_false, not_false_eq_true] at h))
  · unfold rmV; rw [if_neg (by simp_all)]
  · have hx : isFr n d = true := h
    (try simp (disch := first | omega | (simp only [List.length_append, List.length_cons, List.length_nil, List.length_replicate, List.length_set, List.length_take, List.length_drop, vi_len, vb_len, vo_len, vl_len, vn_len]; omega)) only [↓EC, EV, EL, E2, E3, ER, seval, ↓reduceIte, false_imp_iff])
    (refine pcd_v (c_spec_l10Moves hl) ?_; (try simp (disch := first | omega | (simp only [List.length_append, List.length_cons, List.length_nil, List.length_replicate, List.length_set, List.length_take, List.length_drop, vi_len, vb_len, vo_len, vl_len, vn_len]; omega)) only [↓EC, EV, EL, E2, E3, ER, seval, ↓reduceIte, false_imp_iff]))
    (refine Split.mk (fun h => ?_) (fun h => ?_) <;> (try simp only [decide_eq_true_eq, decide_eq_false_iff_not, beq_iff_eq, bne_iff_ne, beq_eq_false_iff_ne, bne_eq_false_iff_eq, Bool.not_eq_true', Bool.not_eq_false', Bool.and_eq_true, Bool.or_eq_true, Bool.and_eq_false_iff, Bool.or_eq_false_iff, Int.not_lt, Int.not_le, Bool.false_eq_true, Bool.true_eq_false, false_and, and_false, true_and, and_true, or_false, false_or, or_true, true_or, not_true_eq_false, not_false_eq_true] at h))
    · unfold rmV; rw [if_pos hx, if_neg h]
    · have hc : movesC l = 0 := by simpa using h
      (try simp (disch := first | omega | (simp only [List.length_append, List.length_cons, List.length_nil, List.length_replicate, List.length_set, List.length_take, List.length_drop, vi_len, vb_len, vo_len, vl_len, vn_len]; omega)) only [↓EC, EV, EL, E2, E3, ER, seval, ↓reduceIte, false_imp_iff])
      unfold rmV
      rw [if_pos hx, if_pos hc]
      refine LP_of (σ := Nat × Int × Int) 100000 [(67, 36, 1), (68, 36, 1)] (fun s => [.int .i64 s.1]) (fun s => [[.int .i64 s.2.1, .int .i64 s.2.2], [.int .i64 0, .int .i64 0]])
        (fun s => s.1 ≤ l.length ∧ isFr s.2.1 s.2.2 = true ∧ runO (l.drop s.1) s.2 = runO l (n, d)) (fun s => l.length - s.1) (0, n, d) (by simp [frameOk, names, lpz, sclp, scv, scvs, vi_nrf, vb_nrf, vt_nrf, v2_nrf, v3_nrf, nrfs, nrf, sc_vi, sc_vb, sc_vt, sc_v2, sc_v3, sc_vo, sc_vl, vo_nrf, vl_nrf, sc_vn, vn_nrf]) ⟨Nat.zero_le _, hx, rfl⟩ ?_ ?_
      · simp (disch := first | omega | (simp only [List.length_append, List.length_cons, List.length_nil, List.length_replicate, List.length_set, List.length_take, List.length_drop, vi_len, vb_len, vo_len, vl_len, vn_len]; omega)) only [↓EC, EV, EL, E2, E3, ER, seval, ↓reduceIte, false_imp_iff, ColV_def]
      · rintro ⟨i, a, b⟩ ⟨h1, h2, h3⟩
        simp only at h1 h2 h3
        simp (disch := first | omega | (simp only [List.length_append, List.length_cons, List.length_nil, List.length_replicate, List.length_set, List.length_take, List.length_drop, vi_len, vb_len, vo_len, vl_len, vn_len]; omega)) only [↓EC, EV, EL, E2, E3, ER, seval, ↓reduceIte, false_imp_iff, ColV_def, lheap_def]
        (refine Split.mk (fun h => ?_) (fun h => ?_) <;> (try simp only [decide_eq_true_eq, decide_eq_false_iff_not, beq_iff_eq, bne_iff_ne, beq_eq_false_iff_ne, bne_eq_false_iff_eq, Bool.not_eq_true', Bool.not_eq_false', Bool.and_eq_true, Bool.or_eq_true, Bool.and_eq_false_iff, Bool.or_eq_false_iff, Int.not_lt, Int.not_le, Bool.false_eq_true, Bool.true_eq_false, false_and, and_false, true_and, and_true, or_false, false_or, or_true, true_or, not_true_eq_false, not_false_eq_true] at h))
        · have hi : i < l.length := by omega
          have hm : isMoveB (g3 l i).1 (g3 l i).2.1 (g3 l i).2.2 = true := movesC_mv hc hi
          rw [runO_drop hi] at h3
          (try simp (disch := first | omega | (simp only [List.length_append, List.length_cons, List.length_nil, List.length_replicate, List.length_set, List.length_take, List.length_drop, vi_len, vb_len, vo_len, vl_len, vn_len]; omega)) only [↓EC, EV, EL, E2, E3, ER, seval, ↓reduceIte, false_imp_iff])
          refine pcd_r (c_spec_l10At hm h2) ?_
          rintro v (⟨x, y, ho, rfl⟩ | ⟨ho, x, y, rfl⟩)
          · have hy := mvO_fr h2 hm ho
            rw [ho] at h3
            (try simp (disch := first | omega | (simp only [List.length_append, List.length_cons, List.length_nil, List.length_replicate, List.length_set, List.length_take, List.length_drop, vi_len, vb_len, vo_len, vl_len, vn_len]; omega)) only [↓EC, EV, EL, E2, E3, ER, seval, ↓reduceIte, false_imp_iff])
            exact ⟨(i + 1, x, y), by simp, rfl, ⟨by simp only; omega, hy, h3⟩, by simp only; omega⟩
          · rw [ho] at h3
            rw [← h3]
            (try simp (disch := first | omega | (simp only [List.length_append, List.length_cons, List.length_nil, List.length_replicate, List.length_set, List.length_take, List.length_drop, vi_len, vb_len, vo_len, vl_len, vn_len]; omega)) only [↓EC, EV, EL, E2, E3, ER, seval, ↓reduceIte, false_imp_iff])
            try rfl
        · (try simp (disch := first | omega | (simp only [List.length_append, List.length_cons, List.length_nil, List.length_replicate, List.length_set, List.length_take, List.length_drop, vi_len, vb_len, vo_len, vl_len, vn_len]; omega)) only [↓EC, EV, EL, E2, E3, ER, seval, ↓reduceIte, false_imp_iff])
          rw [List.drop_of_length_le (by omega)] at h3
          rw [← h3]
          rfl
theorem rmV_cases (l : List (Int × Int × Int)) (n d : Int) : ∃ a b c, rmV l n d = .tup [.agg [.int .i64 a, .int .i64 b], .int .i64 c] := by
  unfold rmV
  split
  · split
    · rcases frV_cases (runO l (n, d)) with ⟨a, b, ho⟩ | ho <;> rw [ho]
      · exact ⟨a, b, 0, rfl⟩
      · exact ⟨0, 0, 3, rfl⟩
    · exact ⟨0, 0, _, rfl⟩
  · exact ⟨0, 0, 1, rfl⟩
theorem c_FnExactRunMoves {l : List (Int × Int × Int)} {n d : Int} (hl : l.length ≤ 9223372036854775807) : PSpec Try.prog 5 [.sl l.length (v3 .i64 l), .agg [.int .i64 n, .int .i64 d]] fun v => v = .bool true := by
  obtain ⟨a, b, c, e⟩ := rmV_cases l n d
  refine laws_FnExactRunMoves_f.f ?_
  simp (disch := first | omega | (simp only [List.length_append, List.length_cons, List.length_nil, List.length_replicate, List.length_set, List.length_take, List.length_drop, vi_len, vb_len, vo_len, vl_len, vn_len]; omega)) only [↓EC, EV, EL, E2, E3, ER, seval, ↓reduceIte, false_imp_iff, laws_FnExactRunMoves_F]
  (refine pcd_v (c_laws_szMoveS hl (by decide)) ?_; (try simp (disch := first | omega | (simp only [List.length_append, List.length_cons, List.length_nil, List.length_replicate, List.length_set, List.length_take, List.length_drop, vi_len, vb_len, vo_len, vl_len, vn_len]; omega)) only [↓EC, EV, EL, E2, E3, ER, seval, ↓reduceIte, false_imp_iff]))
  (refine Split.mk (fun h => ?_) (fun h => ?_) <;> (try simp only [decide_eq_true_eq, decide_eq_false_iff_not, beq_iff_eq, bne_iff_ne, beq_eq_false_iff_ne, bne_eq_false_iff_eq, Bool.not_eq_true', Bool.not_eq_false', Bool.and_eq_true, Bool.or_eq_true, Bool.and_eq_false_iff, Bool.or_eq_false_iff, Int.not_lt, Int.not_le, Bool.false_eq_true, Bool.true_eq_false, false_and, and_false, true_and, and_true, or_false, false_or, or_true, true_or, not_true_eq_false, not_false_eq_true] at h))
  · trivial
  have h' : l.length ≤ 1048576 := by unfold szV0 at h; split at h <;> omega
  (try simp (disch := first | omega | (simp only [List.length_append, List.length_cons, List.length_nil, List.length_replicate, List.length_set, List.length_take, List.length_drop, vi_len, vb_len, vo_len, vl_len, vn_len]; omega)) only [↓EC, EV, EL, E2, E3, ER, seval, ↓reduceIte, false_imp_iff])
  (refine pcd_v (c_laws_toMoveS h') ?_; (try simp (disch := first | omega | (simp only [List.length_append, List.length_cons, List.length_nil, List.length_replicate, List.length_set, List.length_take, List.length_drop, vi_len, vb_len, vo_len, vl_len, vn_len]; omega)) only [↓EC, EV, EL, E2, E3, ER, seval, ↓reduceIte, false_imp_iff]))
  (refine pcd_v (c_laws_toFraction) ?_; (try simp (disch := first | omega | (simp only [List.length_append, List.length_cons, List.length_nil, List.length_replicate, List.length_set, List.length_take, List.length_drop, vi_len, vb_len, vo_len, vl_len, vn_len]; omega)) only [↓EC, EV, EL, E2, E3, ER, seval, ↓reduceIte, false_imp_iff]))
  refine pcd_v (c_spec_RunMoves h') ?_
  rw [e]
  (try simp (disch := first | omega | (simp only [List.length_append, List.length_cons, List.length_nil, List.length_replicate, List.length_set, List.length_take, List.length_drop, vi_len, vb_len, vo_len, vl_len, vn_len]; omega)) only [↓EC, EV, EL, E2, E3, ER, seval, ↓reduceIte, false_imp_iff])
  (refine pcd_v (c_laws_toMoveS h') ?_; (try simp (disch := first | omega | (simp only [List.length_append, List.length_cons, List.length_nil, List.length_replicate, List.length_set, List.length_take, List.length_drop, vi_len, vb_len, vo_len, vl_len, vn_len]; omega)) only [↓EC, EV, EL, E2, E3, ER, seval, ↓reduceIte, false_imp_iff]))
  (refine pcd_v (c_laws_toFraction) ?_; (try simp (disch := first | omega | (simp only [List.length_append, List.length_cons, List.length_nil, List.length_replicate, List.length_set, List.length_take, List.length_drop, vi_len, vb_len, vo_len, vl_len, vn_len]; omega)) only [↓EC, EV, EL, E2, E3, ER, seval, ↓reduceIte, false_imp_iff]))
  refine pcd_v (c_impl_RunMoves h') ?_
  rw [e]
  (try simp (disch := first | omega | (simp only [List.length_append, List.length_cons, List.length_nil, List.length_replicate, List.length_set, List.length_take, List.length_drop, vi_len, vb_len, vo_len, vl_len, vn_len]; omega)) only [↓EC, EV, EL, E2, E3, ER, seval, ↓reduceIte, false_imp_iff])
  repeat' first
    | (refine Split.mk (fun h => ?_) (fun h => ?_) <;> (try simp only [decide_eq_true_eq, decide_eq_false_iff_not, beq_iff_eq, bne_iff_ne, beq_eq_false_iff_ne, bne_eq_false_iff_eq, Bool.not_eq_true', Bool.not_eq_false', Bool.and_eq_true, Bool.or_eq_true, Bool.and_eq_false_iff, Bool.or_eq_false_iff, Int.not_lt, Int.not_le, Bool.false_eq_true, Bool.true_eq_false, false_and, and_false, true_and, and_true, or_false, false_or, or_true, true_or, not_true_eq_false, not_false_eq_true] at h))
    | (refine pcd_v (c_laws_toMoveS h') ?_; (try simp (disch := first | omega | (simp only [List.length_append, List.length_cons, List.length_nil, List.length_replicate, List.length_set, List.length_take, List.length_drop, vi_len, vb_len, vo_len, vl_len, vn_len]; omega)) only [↓EC, EV, EL, E2, E3, ER, seval, ↓reduceIte, false_imp_iff]))
    | (refine pcd_v (c_laws_eqFraction) ?_; (try simp (disch := first | omega | (simp only [List.length_append, List.length_cons, List.length_nil, List.length_replicate, List.length_set, List.length_take, List.length_drop, vi_len, vb_len, vo_len, vl_len, vn_len]; omega)) only [↓EC, EV, EL, E2, E3, ER, seval, ↓reduceIte, false_imp_iff]))
    | (refine pcd_v (c_laws_eqMoveS h') ?_; (try simp (disch := first | omega | (simp only [List.length_append, List.length_cons, List.length_nil, List.length_replicate, List.length_set, List.length_take, List.length_drop, vi_len, vb_len, vo_len, vl_len, vn_len]; omega)) only [↓EC, EV, EL, E2, E3, ER, seval, ↓reduceIte, false_imp_iff]))
  all_goals simp_all
theorem t_FnExactRunMoves : ∀ xs, Ty.oks [.sl (.st [.int .i64, .int .i64, .int .i64]), .st [.int .i64, .int .i64]] xs → PSpec Try.prog 5 xs fun r => r = .bool true := by
  rintro xs ⟨v, r, rfl, hv, hw⟩
  obtain ⟨l, rfl, h1, _⟩ := ok_3s hv
  obtain ⟨w, r, rfl, hw, rfl⟩ := hw
  simp only [Ty.ok, Ty.isAgg, if_true, Ty.fits, Ty.fitss] at hw
  obtain ⟨l, rfl, a, b, rfl, ⟨x, rfl, _⟩, a, b, rfl, ⟨y, rfl, _⟩, rfl⟩ := hw
  exact c_FnExactRunMoves h1
end Go.Proofs.Ytppkppmkjjbbgaa.Sep
