/- Passports of moves: the law. -/
import Derived.Test.YtlfpiegadaiafaaC15
import Derived.Test.YtlfpiegadaiafaaC29
namespace Go.Proofs.Ytlfpiegadaiafaa.Sep
open Go.RowKit
set_option linter.unusedVariables false
set_option linter.unusedSimpArgs false
set_option maxRecDepth 20000
set_option maxHeartbeats 1000000

/-- The rows of a passport. -/
def pmL (k f l : Int) : List (List Int) := if k = 2 then [[max f l, min f l], 2 :: List.replicate (f + l - 2).toNat 1, [f + l]] else [[1], [1], [1]]
def pmC (k f l : Int) : Int := if isMoveB k f l = true then (if 16 < degM (k, f, l) then 3 else 0) else 1
theorem pmC_0 {k f l : Int} (h : pmC k f l = 0) : isMoveB k f l = true ∧ degM (k, f, l) ≤ 16 := by
  unfold pmC at h
  split at h
  · split at h
    · omega
    · exact ⟨by assumption, by omega⟩
  · omega
theorem c_impl_PassportOfMove {k f l : Int} (h0 : pmC k f l = 0) : PSpec Try.prog 21 [.agg [.int .i64 k, .int .i64 f, .int .i64 l]] fun v => v = .tup [.own 80 1 3 (vo 2 (pmL k f l)), .int .i64 0] := by
  obtain ⟨hm, hd⟩ := pmC_0 h0
  have hm' := hm
  simp only [isMoveB, decide_eq_true_eq] at hm'
  have hdd : degM (k, f, l) = if 1 < f + l then f + l else 1 := rfl
  refine impl_PassportOfMove_f.f ?_
  simp (config := { maxSteps := 10000000 }) (disch := first | omega | (simp only [List.length_append, List.length_cons, List.length_nil, List.length_replicate, List.length_set, List.length_take, List.length_drop, vi_len, vb_len, vo_len, vl_len, vn_len]; omega)) only [↓EC, EV, EL, E2, E3, ER, seval, ↓reduceIte, false_imp_iff, impl_PassportOfMove_F]
  refine pcd_v (c_impl_degree hm) ?_
  (try simp (disch := first | omega | (simp only [List.length_append, List.length_cons, List.length_nil, List.length_replicate, List.length_set, List.length_take, List.length_drop, vi_len, vb_len, vo_len, vl_len, vn_len]; omega)) only [↓EC, EV, EL, E2, E3, ER, seval, ↓reduceIte, false_imp_iff])
  refine pcd_v c_impl_IsMove ?_
  (try simp (disch := first | omega | (simp only [List.length_append, List.length_cons, List.length_nil, List.length_replicate, List.length_set, List.length_take, List.length_drop, vi_len, vb_len, vo_len, vl_len, vn_len]; omega)) only [↓EC, EV, EL, E2, E3, ER, seval, ↓reduceIte, false_imp_iff, hm])
  (refine Split.mk (fun h => ?_) (fun h => ?_) <;> (try simp only [decide_eq_true_eq, decide_eq_false_iff_not, beq_iff_eq, bne_iff_ne, beq_eq_false_iff_ne, bne_eq_false_iff_eq, Bool.not_eq_true', Bool.not_eq_false', Bool.and_eq_true, Bool.or_eq_true, Bool.and_eq_false_iff, Bool.or_eq_false_iff, Int.not_lt, Int.not_le, Bool.false_eq_true, Bool.true_eq_false, false_and, and_false, true_and, and_true, or_false, false_or, or_true, true_or, not_true_eq_false, not_false_eq_true] at h))
  · omega
  (try simp (disch := first | omega | (simp only [List.length_append, List.length_cons, List.length_nil, List.length_replicate, List.length_set, List.length_take, List.length_drop, vi_len, vb_len, vo_len, vl_len, vn_len]; omega)) only [↓EC, EV, EL, E2, E3, ER, seval, ↓reduceIte, false_imp_iff])
  (refine Split.mk (fun h => ?_) (fun h => ?_) <;> (try simp only [decide_eq_true_eq, decide_eq_false_iff_not, beq_iff_eq, bne_iff_ne, beq_eq_false_iff_ne, bne_eq_false_iff_eq, Bool.not_eq_true', Bool.not_eq_false', Bool.and_eq_true, Bool.or_eq_true, Bool.and_eq_false_iff, Bool.or_eq_false_iff, Int.not_lt, Int.not_le, Bool.false_eq_true, Bool.true_eq_false, false_and, and_false, true_and, and_true, or_false, false_or, or_true, true_or, not_true_eq_false, not_false_eq_true] at h))
  · have hk : ¬ k = 2 := by intro e; rw [if_pos (by omega)] at hdd; omega
    unfold pmL; rw [if_neg hk]
    (try simp (disch := first | omega | (simp only [List.length_append, List.length_cons, List.length_nil, List.length_replicate, List.length_set, List.length_take, List.length_drop, vi_len, vb_len, vo_len, vl_len, vn_len]; omega)) only [↓EC, EV, EL, E2, E3, ER, seval, ↓reduceIte, false_imp_iff])
    rfl
  · have hk : k = 2 := by
      rcases hm' with h' | h'
      · exact h'.1
      · rw [if_neg (by omega)] at hdd; omega
    have hs : degM (k, f, l) = f + l := by rw [hdd, if_pos (by omega)]
    rw [hs]
    have hr := c_Repeat (k := (f + l - 2).toNat) (by omega)
    have hn : (((f + l - 2).toNat : Nat) : Int) = f + l - 2 := by omega
    rw [hn] at hr
    (try simp (disch := first | omega | (simp only [List.length_append, List.length_cons, List.length_nil, List.length_replicate, List.length_set, List.length_take, List.length_drop, vi_len, vb_len, vo_len, vl_len, vn_len]; omega)) only [↓EC, EV, EL, E2, E3, ER, seval, ↓reduceIte, false_imp_iff])
    refine pcd_o hr ?_
    (try simp (disch := first | omega | (simp only [List.length_append, List.length_cons, List.length_nil, List.length_replicate, List.length_set, List.length_take, List.length_drop, vi_len, vb_len, vo_len, vl_len, vn_len]; omega)) only [↓EC, EV, EL, E2, E3, ER, seval, ↓reduceIte, false_imp_iff, List.length_replicate])
    refine pcmr [82] rfl ?_
    (try simp (disch := first | omega | (simp only [List.length_append, List.length_cons, List.length_nil, List.length_replicate, List.length_set, List.length_take, List.length_drop, vi_len, vb_len, vo_len, vl_len, vn_len]; omega)) only [↓EC, EV, EL, E2, E3, ER, seval, ↓reduceIte, false_imp_iff])
    refine callMR_r c_descending rfl ?_
    (try simp (disch := first | omega | (simp only [List.length_append, List.length_cons, List.length_nil, List.length_replicate, List.length_set, List.length_take, List.length_drop, vi_len, vb_len, vo_len, vl_len, vn_len]; omega)) only [↓EC, EV, EL, E2, E3, ER, seval, ↓reduceIte, false_imp_iff])
    unfold pmL; rw [if_pos hk]
    simp [vo, vi, Nat.add_comm]
theorem c_impl_degree_any {k f l : Int} : PSpec Try.prog 58 [.agg [.int .i64 k, .int .i64 f, .int .i64 l]] fun v => ∃ d, v = .int .i64 d := by
  refine impl_degree_f.f ?_
  simp (disch := first | omega | (simp only [List.length_append, List.length_cons, List.length_nil, List.length_replicate, List.length_set, List.length_take, List.length_drop, vi_len, vb_len, vo_len, vl_len, vn_len]; omega)) only [↓EC, EV, EL, E2, E3, ER, seval, ↓reduceIte, false_imp_iff, impl_degree_F]
  exact ⟨_, rfl⟩
theorem c_impl_PassportOfMove_no {k f l : Int} (h0 : ¬ pmC k f l = 0) : PSpec Try.prog 21 [.agg [.int .i64 k, .int .i64 f, .int .i64 l]] fun v => v = .tup [.nils, .int .i64 (pmC k f l)] := by
  refine impl_PassportOfMove_f.f ?_
  simp (config := { maxSteps := 10000000 }) (disch := first | omega | (simp only [List.length_append, List.length_cons, List.length_nil, List.length_replicate, List.length_set, List.length_take, List.length_drop, vi_len, vb_len, vo_len, vl_len, vn_len]; omega)) only [↓EC, EV, EL, E2, E3, ER, seval, ↓reduceIte, false_imp_iff, impl_PassportOfMove_F]
  cases hm : isMoveB k f l with
  | false =>
    refine pcd_r c_impl_degree_any ?_
    rintro _ ⟨d, rfl⟩
    (try simp (disch := first | omega | (simp only [List.length_append, List.length_cons, List.length_nil, List.length_replicate, List.length_set, List.length_take, List.length_drop, vi_len, vb_len, vo_len, vl_len, vn_len]; omega)) only [↓EC, EV, EL, E2, E3, ER, seval, ↓reduceIte, false_imp_iff])
    refine pcd_v c_impl_IsMove ?_
    have e : pmC k f l = 1 := by unfold pmC; rw [if_neg (by rw [hm]; decide)]
    rw [e]
    (try simp (disch := first | omega | (simp only [List.length_append, List.length_cons, List.length_nil, List.length_replicate, List.length_set, List.length_take, List.length_drop, vi_len, vb_len, vo_len, vl_len, vn_len]; omega)) only [↓EC, EV, EL, E2, E3, ER, seval, ↓reduceIte, false_imp_iff, hm])
  | true =>
    refine pcd_v (c_impl_degree hm) ?_
    (try simp (disch := first | omega | (simp only [List.length_append, List.length_cons, List.length_nil, List.length_replicate, List.length_set, List.length_take, List.length_drop, vi_len, vb_len, vo_len, vl_len, vn_len]; omega)) only [↓EC, EV, EL, E2, E3, ER, seval, ↓reduceIte, false_imp_iff])
    refine pcd_v c_impl_IsMove ?_
    (try simp (disch := first | omega | (simp only [List.length_append, List.length_cons, List.length_nil, List.length_replicate, List.length_set, List.length_take, List.length_drop, vi_len, vb_len, vo_len, vl_len, vn_len]; omega)) only [↓EC, EV, EL, E2, E3, ER, seval, ↓reduceIte, false_imp_iff, hm])
    have e : pmC k f l = 3 := by
      unfold pmC at h0 ⊢
      rw [if_pos hm] at h0 ⊢
      split at h0
      · rename_i h'; rw [if_pos h']
      · exact absurd rfl h0
    have hd : 16 < degM (k, f, l) := by
      unfold pmC at h0
      rw [if_pos hm] at h0
      split at h0
      · assumption
      · exact absurd rfl h0
    (refine Split.mk (fun h => ?_) (fun h => ?_) <;> (try simp only [decide_eq_true_eq, decide_eq_false_iff_not, beq_iff_eq, bne_iff_ne, beq_eq_false_iff_ne, bne_eq_false_iff_eq, Bool.not_eq_true', Bool.not_eq_false', Bool.and_eq_true, Bool.or_eq_true, Bool.and_eq_false_iff, Bool.or_eq_false_iff, Int.not_lt, Int.not_le, Bool.false_eq_true, Bool.true_eq_false, false_and, and_false, true_and, and_true, or_false, false_or, or_true, true_or, not_true_eq_false, not_false_eq_true] at h))
    · rw [e]
    · omega
theorem c_spec_PassportOfMove_no {k f l : Int} (h0 : ¬ pmC k f l = 0) : PSpec Try.prog 22 [.agg [.int .i64 k, .int .i64 f, .int .i64 l]] fun v => v = .tup [.nils, .int .i64 (pmC k f l)] := by
  refine spec_PassportOfMove_f.f ?_
  simp (config := { maxSteps := 10000000 }) (disch := first | omega | (simp only [List.length_append, List.length_cons, List.length_nil, List.length_replicate, List.length_set, List.length_take, List.length_drop, vi_len, vb_len, vo_len, vl_len, vn_len]; omega)) only [↓EC, EV, EL, E2, E3, ER, seval, ↓reduceIte, false_imp_iff, spec_PassportOfMove_F]
  refine pcd_v c_spec_l10Move ?_
  cases hm : isMoveB k f l with
  | false =>
    have e : pmC k f l = 1 := by unfold pmC; rw [if_neg (by rw [hm]; decide)]
    rw [e]
    (try simp (disch := first | omega | (simp only [List.length_append, List.length_cons, List.length_nil, List.length_replicate, List.length_set, List.length_take, List.length_drop, vi_len, vb_len, vo_len, vl_len, vn_len]; omega)) only [↓EC, EV, EL, E2, E3, ER, seval, ↓reduceIte, false_imp_iff, hm])
  | true =>
    (try simp (disch := first | omega | (simp only [List.length_append, List.length_cons, List.length_nil, List.length_replicate, List.length_set, List.length_take, List.length_drop, vi_len, vb_len, vo_len, vl_len, vn_len]; omega)) only [↓EC, EV, EL, E2, E3, ER, seval, ↓reduceIte, false_imp_iff, hm])
    refine pcd_v (c_spec_l10Degree hm) ?_
    (try simp (disch := first | omega | (simp only [List.length_append, List.length_cons, List.length_nil, List.length_replicate, List.length_set, List.length_take, List.length_drop, vi_len, vb_len, vo_len, vl_len, vn_len]; omega)) only [↓EC, EV, EL, E2, E3, ER, seval, ↓reduceIte, false_imp_iff])
    have e : pmC k f l = 3 := by
      unfold pmC at h0 ⊢
      rw [if_pos hm] at h0 ⊢
      split at h0
      · rename_i h'; rw [if_pos h']
      · exact absurd rfl h0
    have hd : 16 < degM (k, f, l) := by
      unfold pmC at h0
      rw [if_pos hm] at h0
      split at h0
      · assumption
      · exact absurd rfl h0
    (refine Split.mk (fun h => ?_) (fun h => ?_) <;> (try simp only [decide_eq_true_eq, decide_eq_false_iff_not, beq_iff_eq, bne_iff_ne, beq_eq_false_iff_ne, bne_eq_false_iff_eq, Bool.not_eq_true', Bool.not_eq_false', Bool.and_eq_true, Bool.or_eq_true, Bool.and_eq_false_iff, Bool.or_eq_false_iff, Int.not_lt, Int.not_le, Bool.false_eq_true, Bool.true_eq_false, false_and, and_false, true_and, and_true, or_false, false_or, or_true, true_or, not_true_eq_false, not_false_eq_true] at h))
    · rw [e]
    · omega
theorem c_spec_PassportOfMove {k f l : Int} (h0 : pmC k f l = 0) : PSpec Try.prog 22 [.agg [.int .i64 k, .int .i64 f, .int .i64 l]] fun v => v = .tup [.own 80 1 3 (vo 2 (pmL k f l)), .int .i64 0] := by
  obtain ⟨hm, hd⟩ := pmC_0 h0
  have hm' := hm
  simp only [isMoveB, decide_eq_true_eq] at hm'
  have hdd : degM (k, f, l) = if 1 < f + l then f + l else 1 := rfl
  refine spec_PassportOfMove_f.f ?_
  simp (config := { maxSteps := 10000000 }) (disch := first | omega | (simp only [List.length_append, List.length_cons, List.length_nil, List.length_replicate, List.length_set, List.length_take, List.length_drop, vi_len, vb_len, vo_len, vl_len, vn_len]; omega)) only [↓EC, EV, EL, E2, E3, ER, seval, ↓reduceIte, false_imp_iff, spec_PassportOfMove_F]
  refine pcd_v c_spec_l10Move ?_
  (try simp (disch := first | omega | (simp only [List.length_append, List.length_cons, List.length_nil, List.length_replicate, List.length_set, List.length_take, List.length_drop, vi_len, vb_len, vo_len, vl_len, vn_len]; omega)) only [↓EC, EV, EL, E2, E3, ER, seval, ↓reduceIte, false_imp_iff, hm])
  refine pcd_v (c_spec_l10Degree hm) ?_
  (try simp (disch := first | omega | (simp only [List.length_append, List.length_cons, List.length_nil, List.length_replicate, List.length_set, List.length_take, List.length_drop, vi_len, vb_len, vo_len, vl_len, vn_len]; omega)) only [↓EC, EV, EL, E2, E3, ER, seval, ↓reduceIte, false_imp_iff])
  (refine Split.mk (fun h => ?_) (fun h => ?_) <;> (try simp only [decide_eq_true_eq, decide_eq_false_iff_not, beq_iff_eq, bne_iff_ne, beq_eq_false_iff_ne, bne_eq_false_iff_eq, Bool.not_eq_true', Bool.not_eq_false', Bool.and_eq_true, Bool.or_eq_true, Bool.and_eq_false_iff, Bool.or_eq_false_iff, Int.not_lt, Int.not_le, Bool.false_eq_true, Bool.true_eq_false, false_and, and_false, true_and, and_true, or_false, false_or, or_true, true_or, not_true_eq_false, not_false_eq_true] at h))
  · omega
  (try simp (disch := first | omega | (simp only [List.length_append, List.length_cons, List.length_nil, List.length_replicate, List.length_set, List.length_take, List.length_drop, vi_len, vb_len, vo_len, vl_len, vn_len]; omega)) only [↓EC, EV, EL, E2, E3, ER, seval, ↓reduceIte, false_imp_iff])
  (refine Split.mk (fun h => ?_) (fun h => ?_) <;> (try simp only [decide_eq_true_eq, decide_eq_false_iff_not, beq_iff_eq, bne_iff_ne, beq_eq_false_iff_ne, bne_eq_false_iff_eq, Bool.not_eq_true', Bool.not_eq_false', Bool.and_eq_true, Bool.or_eq_true, Bool.and_eq_false_iff, Bool.or_eq_false_iff, Int.not_lt, Int.not_le, Bool.false_eq_true, Bool.true_eq_false, false_and, and_false, true_and, and_true, or_false, false_or, or_true, true_or, not_true_eq_false, not_false_eq_true] at h))
  · have hk : ¬ k = 2 := by omega
    unfold pmL; rw [if_neg hk]
    (try simp (disch := first | omega | (simp only [List.length_append, List.length_cons, List.length_nil, List.length_replicate, List.length_set, List.length_take, List.length_drop, vi_len, vb_len, vo_len, vl_len, vn_len]; omega)) only [↓EC, EV, EL, E2, E3, ER, seval, ↓reduceIte, false_imp_iff])
    rfl
  · have hk : k = 2 := by omega
    rw [if_pos (by omega)] at hdd
    (try simp (disch := first | omega | (simp only [List.length_append, List.length_cons, List.length_nil, List.length_replicate, List.length_set, List.length_take, List.length_drop, vi_len, vb_len, vo_len, vl_len, vn_len]; omega)) only [↓EC, EV, EL, E2, E3, ER, seval, ↓reduceIte, false_imp_iff])
    refine LP_of (σ := Nat) 100000 [(65, 36, 1)] (fun t => [.own 2 1 (1 + t) (vi .i64 (2 :: List.replicate t 1)), .int .i64 (f + l - t)]) (fun t => [[.int .i64 k, .int .i64 f, .int .i64 l]])
      (fun t => t ≤ (f + l - 2).toNat) (fun t => (f + l - 2).toNat - t) 0 (by simp [frameOk, names, lpz, sclp, scv, scvs, vi_nrf, vb_nrf, vt_nrf, v2_nrf, v3_nrf, nrfs, nrf, sc_vi, sc_vb, sc_vt, sc_v2, sc_v3, sc_vo, sc_vl, vo_nrf, vl_nrf, sc_vn, vn_nrf]) (Nat.zero_le _) ?_ ?_
    · simp (disch := first | omega | (simp only [List.length_append, List.length_cons, List.length_nil, List.length_replicate, List.length_set, List.length_take, List.length_drop, vi_len, vb_len, vo_len, vl_len, vn_len]; omega)) only [↓EC, EV, EL, E2, E3, ER, seval, ↓reduceIte, false_imp_iff, ColV_def]
      simp [vi]
    · rintro t ht
      simp (disch := first | omega | (simp only [List.length_append, List.length_cons, List.length_nil, List.length_replicate, List.length_set, List.length_take, List.length_drop, vi_len, vb_len, vo_len, vl_len, vn_len]; omega)) only [↓EC, EV, EL, E2, E3, ER, seval, ↓reduceIte, false_imp_iff, ColV_def, lheap_def]
      (refine Split.mk (fun h => ?_) (fun h => ?_) <;> (try simp only [decide_eq_true_eq, decide_eq_false_iff_not, beq_iff_eq, bne_iff_ne, beq_eq_false_iff_ne, bne_eq_false_iff_eq, Bool.not_eq_true', Bool.not_eq_false', Bool.and_eq_true, Bool.or_eq_true, Bool.and_eq_false_iff, Bool.or_eq_false_iff, Int.not_lt, Int.not_le, Bool.false_eq_true, Bool.true_eq_false, false_and, and_false, true_and, and_true, or_false, false_or, or_true, true_or, not_true_eq_false, not_false_eq_true] at h))
      · (try simp (disch := first | omega | (simp only [List.length_append, List.length_cons, List.length_nil, List.length_replicate, List.length_set, List.length_take, List.length_drop, vi_len, vb_len, vo_len, vl_len, vn_len]; omega)) only [↓EC, EV, EL, E2, E3, ER, seval, ↓reduceIte, false_imp_iff, List.length_replicate])
        refine ⟨t + 1, ?_, by omega, by omega⟩
        simp [vi, List.replicate_succ', Nat.add_assoc]
        omega
      · have : t = (f + l - 2).toNat := by omega
        subst this
        (try simp (disch := first | omega | (simp only [List.length_append, List.length_cons, List.length_nil, List.length_replicate, List.length_set, List.length_take, List.length_drop, vi_len, vb_len, vo_len, vl_len, vn_len]; omega)) only [↓EC, EV, EL, E2, E3, ER, seval, ↓reduceIte, false_imp_iff])
        unfold pmL; rw [if_pos hk]
        simp [vo, vi, Nat.add_comm]
        try omega
theorem pmL_lim {k f l : Int} (h : pmC k f l = 0) : (pmL k f l).length ≤ 16 ∧ ∀ r ∈ pmL k f l, r.length ≤ 16 := by
  obtain ⟨hm, hd⟩ := pmC_0 h
  have hdd : degM (k, f, l) = if 1 < f + l then f + l else 1 := rfl
  unfold pmL
  split
  · refine ⟨by simp, fun r hr => ?_⟩
    simp only [List.mem_cons, List.not_mem_nil, or_false] at hr
    rcases hr with rfl | rfl | rfl
    · simp
    · simp only [List.length_cons, List.length_replicate]
      split at hdd <;> omega
    · simp
  · exact ⟨by simp, fun r hr => by simp at hr; subst hr; simp⟩
end Go.Proofs.Ytlfpiegadaiafaa.Sep
