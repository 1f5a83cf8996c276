/- Passports of moves. -/
import Derived.Test.YtlfpiegadaiafaaC13
import Derived.Test.YtlfpiegadaiafaaC25
import Derived.Test.YtlfpiegadaiafaaC29
namespace Go.Proofs.Ytlfpiegadaiafaa.Sep
open Go.RowKit
set_option linter.unusedVariables false
set_option linter.unusedSimpArgs false
set_option maxRecDepth 20000
set_option maxHeartbeats 1000000

/-! ### Two numbers in order -/
theorem c_isNaN {x : Int} : PSpec Try.prog 120 [.int .i64 x] fun v => v = .bool false := by
  refine cmp_isNaN_int64_f.f ?_
  simp (disch := first | omega | (simp only [List.length_append, List.length_cons, List.length_nil, List.length_replicate, List.length_set, List.length_take, List.length_drop, vi_len, vb_len, vo_len, vl_len, vn_len]; omega)) only [↓EC, EV, EL, E2, E3, ER, seval, ↓reduceIte, false_imp_iff, cmp_isNaN_int64_F]
  simp
theorem c_less {x y : Int} : PSpec Try.prog 102 [.int .i64 x, .int .i64 y] fun v => v = .bool (decide (x < y)) := by
  refine cmp_Less_int64_f.f ?_
  simp (disch := first | omega | (simp only [List.length_append, List.length_cons, List.length_nil, List.length_replicate, List.length_set, List.length_take, List.length_drop, vi_len, vb_len, vo_len, vl_len, vn_len]; omega)) only [↓EC, EV, EL, E2, E3, ER, seval, ↓reduceIte, false_imp_iff, cmp_Less_int64_F]
  refine pcd_v c_isNaN ?_
  (try simp (disch := first | omega | (simp only [List.length_append, List.length_cons, List.length_nil, List.length_replicate, List.length_set, List.length_take, List.length_drop, vi_len, vb_len, vo_len, vl_len, vn_len]; omega)) only [↓EC, EV, EL, E2, E3, ER, seval, ↓reduceIte, false_imp_iff])
theorem c_insertionSort {x y : Int} : PSpecM Try.prog 96 [.rf 0 0 2, .int .i64 0, .int .i64 2] [(0, 2, 1)] [vi .i64 [x, y]] fun v c => v = .tup [] ∧ c = [vi .i64 [min x y, max x y]] := by
  refine slices_insertionSortOrdered_int64_f.m rfl rfl ?_
  simp (disch := first | omega | (simp only [List.length_append, List.length_cons, List.length_nil, List.length_replicate, List.length_set, List.length_take, List.length_drop, vi_len, vb_len, vo_len, vl_len, vn_len]; omega)) only [↓EC, EV, EL, E2, E3, ER, seval, ↓reduceIte, false_imp_iff, slices_insertionSortOrdered_int64_F]
  refine LP_of (σ := Nat × List Int) 100000 [(0, 2, 1)] (fun s => [.int .i64 s.1]) (fun s => [vi .i64 s.2])
    (fun s => s.1 = 1 ∧ s.2 = [x, y] ∨ s.1 = 2 ∧ s.2 = [min x y, max x y]) (fun s => 2 - s.1) (1, [x, y]) (by simp [frameOk, names, lpz, sclp, scv, scvs, vi_nrf, vb_nrf, vt_nrf, v2_nrf, v3_nrf, nrfs, nrf, sc_vi, sc_vb, sc_vt, sc_v2, sc_v3, sc_vo, sc_vl, vo_nrf, vl_nrf, sc_vn, vn_nrf]) (.inl ⟨rfl, rfl⟩) ?_ ?_
  · simp (disch := first | omega | (simp only [List.length_append, List.length_cons, List.length_nil, List.length_replicate, List.length_set, List.length_take, List.length_drop, vi_len, vb_len, vo_len, vl_len, vn_len]; omega)) only [↓EC, EV, EL, E2, E3, ER, seval, ↓reduceIte, false_imp_iff, ColV_def]
  · rintro ⟨i, l⟩ (⟨h1, h2⟩ | ⟨h1, h2⟩)
    · simp only at h1 h2
      subst h1; subst h2
      simp (disch := first | omega | (simp only [List.length_append, List.length_cons, List.length_nil, List.length_replicate, List.length_set, List.length_take, List.length_drop, vi_len, vb_len, vo_len, vl_len, vn_len]; omega)) only [↓EC, EV, EL, E2, E3, ER, seval, ↓reduceIte, false_imp_iff, ColV_def, lheap_def]
      refine LP_of (σ := Nat × List Int) 200000 [(0, 2, 1)] (fun s => [.int .i64 s.1]) (fun s => [vi .i64 s.2])
        (fun s => s.1 = 1 ∧ s.2 = [x, y] ∨ s.1 = 0 ∧ s.2 = [y, x] ∧ y < x) (fun s => s.1) (1, [x, y]) (by simp [frameOk, names, lpz, sclp, scv, scvs, vi_nrf, vb_nrf, vt_nrf, v2_nrf, v3_nrf, nrfs, nrf, sc_vi, sc_vb, sc_vt, sc_v2, sc_v3, sc_vo, sc_vl, vo_nrf, vl_nrf, sc_vn, vn_nrf]) (.inl ⟨rfl, rfl⟩) ?_ ?_
      · simp (disch := first | omega | (simp only [List.length_append, List.length_cons, List.length_nil, List.length_replicate, List.length_set, List.length_take, List.length_drop, vi_len, vb_len, vo_len, vl_len, vn_len]; omega)) only [↓EC, EV, EL, E2, E3, ER, seval, ↓reduceIte, false_imp_iff, ColV_def]
      · rintro ⟨j, l⟩ (⟨g1, g2⟩ | ⟨g1, g2, g3⟩)
        · simp only at g1 g2
          subst g1; subst g2
          simp (disch := first | omega | (simp only [List.length_append, List.length_cons, List.length_nil, List.length_replicate, List.length_set, List.length_take, List.length_drop, vi_len, vb_len, vo_len, vl_len, vn_len]; omega)) only [↓EC, EV, EL, E2, E3, ER, seval, ↓reduceIte, false_imp_iff, ColV_def, lheap_def]
          refine pcd_v c_less ?_
          (try simp (disch := first | omega | (simp only [List.length_append, List.length_cons, List.length_nil, List.length_replicate, List.length_set, List.length_take, List.length_drop, vi_len, vb_len, vo_len, vl_len, vn_len]; omega)) only [↓EC, EV, EL, E2, E3, ER, seval, ↓reduceIte, false_imp_iff])
          (refine Split.mk (fun h => ?_) (fun h => ?_) <;> (try simp only [decide_eq_true_eq, decide_eq_false_iff_not, beq_iff_eq, bne_iff_ne, beq_eq_false_iff_ne, bne_eq_false_iff_eq, Bool.not_eq_true', Bool.not_eq_false', Bool.and_eq_true, Bool.or_eq_true, Bool.and_eq_false_iff, Bool.or_eq_false_iff, Int.not_lt, Int.not_le, Bool.false_eq_true, Bool.true_eq_false, false_and, and_false, true_and, and_true, or_false, false_or, or_true, true_or, not_true_eq_false, not_false_eq_true] at h))
          · (try simp (disch := first | omega | (simp only [List.length_append, List.length_cons, List.length_nil, List.length_replicate, List.length_set, List.length_take, List.length_drop, vi_len, vb_len, vo_len, vl_len, vn_len]; omega)) only [↓EC, EV, EL, E2, E3, ER, seval, ↓reduceIte, false_imp_iff])
            exact ⟨(0, [y, x]), rfl, rfl, .inr ⟨rfl, rfl, h⟩, by simp⟩
          · (try simp (disch := first | omega | (simp only [List.length_append, List.length_cons, List.length_nil, List.length_replicate, List.length_set, List.length_take, List.length_drop, vi_len, vb_len, vo_len, vl_len, vn_len]; omega)) only [↓EC, EV, EL, E2, E3, ER, seval, ↓reduceIte, false_imp_iff])
            exact ⟨(2, [min x y, max x y]), rfl, by rw [Int.min_eq_left (by omega), Int.max_eq_right (by omega)], .inr ⟨rfl, rfl⟩, by simp⟩
        · simp only at g1 g2
          subst g1; subst g2
          simp (disch := first | omega | (simp only [List.length_append, List.length_cons, List.length_nil, List.length_replicate, List.length_set, List.length_take, List.length_drop, vi_len, vb_len, vo_len, vl_len, vn_len]; omega)) only [↓EC, EV, EL, E2, E3, ER, seval, ↓reduceIte, false_imp_iff, ColV_def, lheap_def]
          exact ⟨(2, [min x y, max x y]), rfl, by rw [Int.min_eq_right (by omega), Int.max_eq_left (by omega)], .inr ⟨rfl, rfl⟩, by simp⟩
    · simp only at h1 h2
      subst h1; subst h2
      simp (disch := first | omega | (simp only [List.length_append, List.length_cons, List.length_nil, List.length_replicate, List.length_set, List.length_take, List.length_drop, vi_len, vb_len, vo_len, vl_len, vn_len]; omega)) only [↓EC, EV, EL, E2, E3, ER, seval, ↓reduceIte, false_imp_iff, ColV_def, lheap_def]
theorem c_pdqsort {x y k : Int} : PSpecM Try.prog 91 [.rf 0 0 2, .int .i64 0, .int .i64 2, .int .i64 k] [(0, 2, 1)] [vi .i64 [x, y]] fun v c => v = .tup [] ∧ c = [vi .i64 [min x y, max x y]] := by
  refine slices_pdqsortOrdered_int64_f.m rfl rfl ?_
  simp (config := { maxSteps := 10000000 }) (disch := first | omega | (simp only [List.length_append, List.length_cons, List.length_nil, List.length_replicate, List.length_set, List.length_take, List.length_drop, vi_len, vb_len, vo_len, vl_len, vn_len]; omega)) only [↓EC, EV, EL, E2, E3, ER, seval, ↓reduceIte, false_imp_iff, slices_pdqsortOrdered_int64_F]
  refine LP_of (σ := Unit) 100000 [(0, 2, 1)] (fun s => [.int .i64 0, .int .i64 2, .int .i64 k, .bool true, .bool true]) (fun s => [vi .i64 [x, y]])
    (fun s => True) (fun s => 0) () (by simp [frameOk, names, lpz, sclp, scv, scvs, vi_nrf, vb_nrf, vt_nrf, v2_nrf, v3_nrf, nrfs, nrf, sc_vi, sc_vb, sc_vt, sc_v2, sc_v3, sc_vo, sc_vl, vo_nrf, vl_nrf, sc_vn, vn_nrf]) trivial ?_ ?_
  · simp (disch := first | omega | (simp only [List.length_append, List.length_cons, List.length_nil, List.length_replicate, List.length_set, List.length_take, List.length_drop, vi_len, vb_len, vo_len, vl_len, vn_len]; omega)) only [↓EC, EV, EL, E2, E3, ER, seval, ↓reduceIte, false_imp_iff, ColV_def]
  · rintro _ _
    simp (disch := first | omega | (simp only [List.length_append, List.length_cons, List.length_nil, List.length_replicate, List.length_set, List.length_take, List.length_drop, vi_len, vb_len, vo_len, vl_len, vn_len]; omega)) only [↓EC, EV, EL, E2, E3, ER, seval, ↓reduceIte, false_imp_iff, ColV_def, lheap_def]
    refine pcm [0] rfl ?_
    (try simp (disch := first | omega | (simp only [List.length_append, List.length_cons, List.length_nil, List.length_replicate, List.length_set, List.length_take, List.length_drop, vi_len, vb_len, vo_len, vl_len, vn_len]; omega)) only [↓EC, EV, EL, E2, E3, ER, seval, ↓reduceIte, false_imp_iff])
    refine callM_v c_insertionSort ?_
    (try simp (disch := first | omega | (simp only [List.length_append, List.length_cons, List.length_nil, List.length_replicate, List.length_set, List.length_take, List.length_drop, vi_len, vb_len, vo_len, vl_len, vn_len]; omega)) only [↓EC, EV, EL, E2, E3, ER, seval, ↓reduceIte, false_imp_iff])
theorem c_Len64 : PSpec Try.prog 106 [.int .u64 2] fun v => v = .int .i64 2 := by
  refine math_bits_Len64_f.f ?_
  simp (config := { maxSteps := 10000000 }) (disch := first | omega | (simp only [List.length_append, List.length_cons, List.length_nil, List.length_replicate, List.length_set, List.length_take, List.length_drop, vi_len, vb_len, vo_len, vl_len, vn_len]; omega)) only [↓EC, EV, EL, E2, E3, ER, seval, ↓reduceIte, false_imp_iff, math_bits_Len64_F]
  try rfl
theorem c_Len : PSpec Try.prog 92 [.int .u64 2] fun v => v = .int .i64 2 := by
  refine math_bits_Len_f.f ?_
  simp (disch := first | omega | (simp only [List.length_append, List.length_cons, List.length_nil, List.length_replicate, List.length_set, List.length_take, List.length_drop, vi_len, vb_len, vo_len, vl_len, vn_len]; omega)) only [↓EC, EV, EL, E2, E3, ER, seval, ↓reduceIte, false_imp_iff, math_bits_Len_F]
  refine pcd_v c_Len64 ?_
  (try simp (disch := first | omega | (simp only [List.length_append, List.length_cons, List.length_nil, List.length_replicate, List.length_set, List.length_take, List.length_drop, vi_len, vb_len, vo_len, vl_len, vn_len]; omega)) only [↓EC, EV, EL, E2, E3, ER, seval, ↓reduceIte, false_imp_iff])
theorem c_Sort {x y : Int} : PSpecM Try.prog 79 [.rf 0 0 2] [(0, 2, 1)] [vi .i64 [x, y]] fun v c => v = .tup [] ∧ c = [vi .i64 [min x y, max x y]] := by
  refine slices_Sort_int64_int64_i_f.m rfl rfl ?_
  simp (disch := first | omega | (simp only [List.length_append, List.length_cons, List.length_nil, List.length_replicate, List.length_set, List.length_take, List.length_drop, vi_len, vb_len, vo_len, vl_len, vn_len]; omega)) only [↓EC, EV, EL, E2, E3, ER, seval, ↓reduceIte, false_imp_iff, slices_Sort_int64_int64_i_F]
  refine pcd_v c_Len ?_
  (try simp (disch := first | omega | (simp only [List.length_append, List.length_cons, List.length_nil, List.length_replicate, List.length_set, List.length_take, List.length_drop, vi_len, vb_len, vo_len, vl_len, vn_len]; omega)) only [↓EC, EV, EL, E2, E3, ER, seval, ↓reduceIte, false_imp_iff])
  refine pcm [0] rfl ?_
  (try simp (disch := first | omega | (simp only [List.length_append, List.length_cons, List.length_nil, List.length_replicate, List.length_set, List.length_take, List.length_drop, vi_len, vb_len, vo_len, vl_len, vn_len]; omega)) only [↓EC, EV, EL, E2, E3, ER, seval, ↓reduceIte, false_imp_iff])
  refine callM_v c_pdqsort ?_
  (try simp (disch := first | omega | (simp only [List.length_append, List.length_cons, List.length_nil, List.length_replicate, List.length_set, List.length_take, List.length_drop, vi_len, vb_len, vo_len, vl_len, vn_len]; omega)) only [↓EC, EV, EL, E2, E3, ER, seval, ↓reduceIte, false_imp_iff])
theorem c_Reverse {x y : Int} : PSpecM Try.prog 80 [.rf 0 0 2] [(0, 2, 1)] [vi .i64 [x, y]] fun v c => v = .tup [] ∧ c = [vi .i64 [y, x]] := by
  refine slices_Reverse_int64_int64_i_f.m rfl rfl ?_
  simp (disch := first | omega | (simp only [List.length_append, List.length_cons, List.length_nil, List.length_replicate, List.length_set, List.length_take, List.length_drop, vi_len, vb_len, vo_len, vl_len, vn_len]; omega)) only [↓EC, EV, EL, E2, E3, ER, seval, ↓reduceIte, false_imp_iff, slices_Reverse_int64_int64_i_F]
  refine LP_of (σ := Bool) 100000 [(0, 2, 1)] (fun s => if s then [.int .i64 1, .int .i64 0] else [.int .i64 0, .int .i64 1]) (fun s => [vi .i64 (if s then [y, x] else [x, y])])
    (fun s => True) (fun s => if s then 0 else 1) false (by simp [frameOk, names, lpz, sclp, scv, scvs, vi_nrf, vb_nrf, vt_nrf, v2_nrf, v3_nrf, nrfs, nrf, sc_vi, sc_vb, sc_vt, sc_v2, sc_v3, sc_vo, sc_vl, vo_nrf, vl_nrf, sc_vn, vn_nrf]) trivial ?_ ?_
  · simp (disch := first | omega | (simp only [List.length_append, List.length_cons, List.length_nil, List.length_replicate, List.length_set, List.length_take, List.length_drop, vi_len, vb_len, vo_len, vl_len, vn_len]; omega)) only [↓EC, EV, EL, E2, E3, ER, seval, ↓reduceIte, false_imp_iff, ColV_def]
    try rfl
  · rintro s _
    cases s with
    | false =>
      simp only [Bool.false_eq_true, if_false]
      simp (disch := first | omega | (simp only [List.length_append, List.length_cons, List.length_nil, List.length_replicate, List.length_set, List.length_take, List.length_drop, vi_len, vb_len, vo_len, vl_len, vn_len]; omega)) only [↓EC, EV, EL, E2, E3, ER, seval, ↓reduceIte, false_imp_iff, ColV_def, lheap_def]
      exact ⟨true, by simp, by simp [vi], by simp⟩
    | true =>
      simp only [if_true]
      simp (disch := first | omega | (simp only [List.length_append, List.length_cons, List.length_nil, List.length_replicate, List.length_set, List.length_take, List.length_drop, vi_len, vb_len, vo_len, vl_len, vn_len]; omega)) only [↓EC, EV, EL, E2, E3, ER, seval, ↓reduceIte, false_imp_iff, ColV_def, lheap_def]
      try exact ⟨rfl, rfl⟩
theorem c_descending {x y : Int} : PSpecMR Try.prog 60 [.rf 0 0 2] [(0, 2, 1)] [vi .i64 [x, y]] fun j o n c => j = 0 ∧ o = 0 ∧ n = 2 ∧ c = [vi .i64 [max x y, min x y]] := by
  refine impl_descending_f.mr rfl rfl ?_
  simp (disch := first | omega | (simp only [List.length_append, List.length_cons, List.length_nil, List.length_replicate, List.length_set, List.length_take, List.length_drop, vi_len, vb_len, vo_len, vl_len, vn_len]; omega)) only [↓EC, EV, EL, E2, E3, ER, seval, ↓reduceIte, false_imp_iff, impl_descending_F]
  refine pcm [0] rfl ?_
  (try simp (disch := first | omega | (simp only [List.length_append, List.length_cons, List.length_nil, List.length_replicate, List.length_set, List.length_take, List.length_drop, vi_len, vb_len, vo_len, vl_len, vn_len]; omega)) only [↓EC, EV, EL, E2, E3, ER, seval, ↓reduceIte, false_imp_iff])
  refine callM_v c_Sort ?_
  (try simp (disch := first | omega | (simp only [List.length_append, List.length_cons, List.length_nil, List.length_replicate, List.length_set, List.length_take, List.length_drop, vi_len, vb_len, vo_len, vl_len, vn_len]; omega)) only [↓EC, EV, EL, E2, E3, ER, seval, ↓reduceIte, false_imp_iff])
  refine pcm [0] rfl ?_
  (try simp (disch := first | omega | (simp only [List.length_append, List.length_cons, List.length_nil, List.length_replicate, List.length_set, List.length_take, List.length_drop, vi_len, vb_len, vo_len, vl_len, vn_len]; omega)) only [↓EC, EV, EL, E2, E3, ER, seval, ↓reduceIte, false_imp_iff])
  refine callM_v c_Reverse ?_
  (try simp (disch := first | omega | (simp only [List.length_append, List.length_cons, List.length_nil, List.length_replicate, List.length_set, List.length_take, List.length_drop, vi_len, vb_len, vo_len, vl_len, vn_len]; omega)) only [↓EC, EV, EL, E2, E3, ER, seval, ↓reduceIte, false_imp_iff])
  exact ⟨rfl, trivial⟩

/-! ### Ones -/
theorem c_Mul64 {k : Nat} (hk : k ≤ 14) : PSpec Try.prog 90 [.int .u64 1, .int .u64 k] fun v => v = .tup [.int .u64 0, .int .u64 k] := by
  refine math_bits_Mul64_f.f ?_
  have : k = 0 ∨ k = 1 ∨ k = 2 ∨ k = 3 ∨ k = 4 ∨ k = 5 ∨ k = 6 ∨ k = 7 ∨ k = 8 ∨ k = 9 ∨ k = 10 ∨ k = 11 ∨ k = 12 ∨ k = 13 ∨ k = 14 := by omega
  rcases this with rfl | rfl | rfl | rfl | rfl | rfl | rfl | rfl | rfl | rfl | rfl | rfl | rfl | rfl | rfl
  all_goals (simp (disch := first | omega | (simp only [List.length_append, List.length_cons, List.length_nil, List.length_replicate, List.length_set, List.length_take, List.length_drop, vi_len, vb_len, vo_len, vl_len, vn_len]; omega)) only [↓EC, EV, EL, E2, E3, ER, seval, ↓reduceIte, false_imp_iff, math_bits_Mul64_F])
  all_goals rfl
theorem c_Mul {k : Nat} (hk : k ≤ 14) : PSpec Try.prog 78 [.int .u64 1, .int .u64 k] fun v => v = .tup [.int .u64 0, .int .u64 k] := by
  refine math_bits_Mul_f.f ?_
  simp (disch := first | omega | (simp only [List.length_append, List.length_cons, List.length_nil, List.length_replicate, List.length_set, List.length_take, List.length_drop, vi_len, vb_len, vo_len, vl_len, vn_len]; omega)) only [↓EC, EV, EL, E2, E3, ER, seval, ↓reduceIte, false_imp_iff, math_bits_Mul_F]
  refine pcd_v (c_Mul64 hk) ?_
  (try simp (disch := first | omega | (simp only [List.length_append, List.length_cons, List.length_nil, List.length_replicate, List.length_set, List.length_take, List.length_drop, vi_len, vb_len, vo_len, vl_len, vn_len]; omega)) only [↓EC, EV, EL, E2, E3, ER, seval, ↓reduceIte, false_imp_iff])
theorem setV_gen {cs vs : List V} {off : Nat} (h : off + vs.length ≤ cs.length) : setV cs off vs = cs.take off ++ vs ++ cs.drop (off + vs.length) := by
  unfold setV
  split
  · rename_i v
    rw [List.set_eq_take_append_cons_drop, if_pos (by simp at h; omega)]
    simp
  · rfl
theorem setV_rep {t m r : Nat} : setV (vi .i64 (List.replicate t 1 ++ List.replicate (m + r) 0)) t (vi .i64 (List.replicate m 1)) = vi .i64 (List.replicate (t + m) 1 ++ List.replicate r 0) := by
  rw [setV_gen (by simp [vi])]
  simp [vi, List.take_append, List.drop_append, List.map_append, ← List.replicate_append_replicate]
theorem c_Repeat {k : Nat} (hk : k ≤ 14) : PSpec Try.prog 59 [.sl 1 (vi .i64 [1]), .int .i64 k] fun v => v = .own 2 1 k (vi .i64 (List.replicate k 1)) := by
  refine slices_Repeat_int64_int64_i_f.f ?_
  simp (disch := first | omega | (simp only [List.length_append, List.length_cons, List.length_nil, List.length_replicate, List.length_set, List.length_take, List.length_drop, vi_len, vb_len, vo_len, vl_len, vn_len]; omega)) only [↓EC, EV, EL, E2, E3, ER, seval, ↓reduceIte, false_imp_iff, slices_Repeat_int64_int64_i_F]
  (refine Split.mk (fun h => ?_) (fun h => ?_) <;> (try simp only [decide_eq_true_eq, decide_eq_false_iff_not, beq_iff_eq, bne_iff_ne, beq_eq_false_iff_ne, bne_eq_false_iff_eq, Bool.not_eq_true', Bool.not_eq_false', Bool.and_eq_true, Bool.or_eq_true, Bool.and_eq_false_iff, Bool.or_eq_false_iff, Int.not_lt, Int.not_le, Bool.false_eq_true, Bool.true_eq_false, false_and, and_false, true_and, and_true, or_false, false_or, or_true, true_or, not_true_eq_false, not_false_eq_true] at h))
  · omega
  refine pcd_v (c_Mul hk) ?_
  (try simp (disch := first | omega | (simp only [List.length_append, List.length_cons, List.length_nil, List.length_replicate, List.length_set, List.length_take, List.length_drop, vi_len, vb_len, vo_len, vl_len, vn_len]; omega)) only [↓EC, EV, EL, E2, E3, ER, seval, ↓reduceIte, false_imp_iff])
  (refine Split.mk (fun h => ?_) (fun h => ?_) <;> (try simp only [decide_eq_true_eq, decide_eq_false_iff_not, beq_iff_eq, bne_iff_ne, beq_eq_false_iff_ne, bne_eq_false_iff_eq, Bool.not_eq_true', Bool.not_eq_false', Bool.and_eq_true, Bool.or_eq_true, Bool.and_eq_false_iff, Bool.or_eq_false_iff, Int.not_lt, Int.not_le, Bool.false_eq_true, Bool.true_eq_false, false_and, and_false, true_and, and_true, or_false, false_or, or_true, true_or, not_true_eq_false, not_false_eq_true] at h))
  · omega
  (try simp (disch := first | omega | (simp only [List.length_append, List.length_cons, List.length_nil, List.length_replicate, List.length_set, List.length_take, List.length_drop, vi_len, vb_len, vo_len, vl_len, vn_len]; omega)) only [↓EC, EV, EL, E2, E3, ER, seval, ↓reduceIte, false_imp_iff])
  by_cases h0 : k = 0
  · subst h0
    (try simp (disch := first | omega | (simp only [List.length_append, List.length_cons, List.length_nil, List.length_replicate, List.length_set, List.length_take, List.length_drop, vi_len, vb_len, vo_len, vl_len, vn_len]; omega)) only [↓EC, EV, EL, E2, E3, ER, seval, ↓reduceIte, false_imp_iff])
    refine LP_of (σ := Unit) 100000 [(94, 2, 1)] (fun s => [.int .i64 0]) (fun s => [[]]) (fun s => True) (fun s => 0) () (by simp [frameOk, names, lpz, sclp, scv, scvs, vi_nrf, vb_nrf, vt_nrf, v2_nrf, v3_nrf, nrfs, nrf, sc_vi, sc_vb, sc_vt, sc_v2, sc_v3, sc_vo, sc_vl, vo_nrf, vl_nrf, sc_vn, vn_nrf]) trivial ?_ ?_
    · simp (disch := first | omega | (simp only [List.length_append, List.length_cons, List.length_nil, List.length_replicate, List.length_set, List.length_take, List.length_drop, vi_len, vb_len, vo_len, vl_len, vn_len]; omega)) only [↓EC, EV, EL, E2, E3, ER, seval, ↓reduceIte, false_imp_iff, ColV_def]
    · rintro _ _
      simp (disch := first | omega | (simp only [List.length_append, List.length_cons, List.length_nil, List.length_replicate, List.length_set, List.length_take, List.length_drop, vi_len, vb_len, vo_len, vl_len, vn_len]; omega)) only [↓EC, EV, EL, E2, E3, ER, seval, ↓reduceIte, false_imp_iff, ColV_def, lheap_def]
      try rfl
  · have e1 : setV (vi .i64 (List.replicate k 0)) 0 (vi .i64 [1]) = vi .i64 (List.replicate 1 1 ++ List.replicate (k - 1) 0) := by
      obtain ⟨k, rfl⟩ : ∃ k', k = k' + 1 := ⟨k - 1, by omega⟩
      simp [setV, vi, List.replicate_succ]
    have e2 : min 1 k = 1 := by omega
    (try simp (disch := first | omega | (simp only [List.length_append, List.length_cons, List.length_nil, List.length_replicate, List.length_set, List.length_take, List.length_drop, vi_len, vb_len, vo_len, vl_len, vn_len]; omega)) only [↓EC, EV, EL, E2, E3, ER, seval, ↓reduceIte, false_imp_iff, e1, e2])
    refine LP_of (σ := Nat) 100000 [(94, 2, 1)] (fun t => [.int .i64 t]) (fun t => [vi .i64 (List.replicate t 1 ++ List.replicate (k - t) 0)]) (fun t => 1 ≤ t ∧ t ≤ k) (fun t => k - t) 1 (by simp [frameOk, names, lpz, sclp, scv, scvs, vi_nrf, vb_nrf, vt_nrf, v2_nrf, v3_nrf, nrfs, nrf, sc_vi, sc_vb, sc_vt, sc_v2, sc_v3, sc_vo, sc_vl, vo_nrf, vl_nrf, sc_vn, vn_nrf]) ⟨Nat.le_refl _, by omega⟩ ?_ ?_
    · simp (disch := first | omega | (simp only [List.length_append, List.length_cons, List.length_nil, List.length_replicate, List.length_set, List.length_take, List.length_drop, vi_len, vb_len, vo_len, vl_len, vn_len]; omega)) only [↓EC, EV, EL, E2, E3, ER, seval, ↓reduceIte, false_imp_iff, ColV_def]
      try rfl
    · rintro t ⟨t1, t2⟩
      have e3 : setV (vi .i64 (List.replicate t 1 ++ List.replicate (k - t) 0)) t (vi .i64 (List.take (min t (k - t)) (List.take t (List.replicate t 1 ++ List.replicate (k - t) 0)))) = vi .i64 (List.replicate (t + min t (k - t)) 1 ++ List.replicate (k - (t + min t (k - t))) 0) := by
        have h1 : List.take (min t (k - t)) (List.take t (List.replicate t (1 : Int) ++ List.replicate (k - t) 0)) = List.replicate (min t (k - t)) 1 := by
          simp [List.take_append]
        rw [h1]
        have h2 : k - t = min t (k - t) + (k - (t + min t (k - t))) := by omega
        have h3 := setV_rep (t := t) (m := min t (k - t)) (r := k - (t + min t (k - t)))
        rw [← h2] at h3
        exact h3
      simp (disch := first | omega | (simp only [List.length_append, List.length_cons, List.length_nil, List.length_replicate, List.length_set, List.length_take, List.length_drop, vi_len, vb_len, vo_len, vl_len, vn_len]; omega)) only [↓EC, EV, EL, E2, E3, ER, seval, ↓reduceIte, false_imp_iff, ColV_def, lheap_def]
      (refine Split.mk (fun h => ?_) (fun h => ?_) <;> (try simp only [decide_eq_true_eq, decide_eq_false_iff_not, beq_iff_eq, bne_iff_ne, beq_eq_false_iff_ne, bne_eq_false_iff_eq, Bool.not_eq_true', Bool.not_eq_false', Bool.and_eq_true, Bool.or_eq_true, Bool.and_eq_false_iff, Bool.or_eq_false_iff, Int.not_lt, Int.not_le, Bool.false_eq_true, Bool.true_eq_false, false_and, and_false, true_and, and_true, or_false, false_or, or_true, true_or, not_true_eq_false, not_false_eq_true] at h))
      · (try simp (disch := first | omega | (simp only [List.length_append, List.length_cons, List.length_nil, List.length_replicate, List.length_set, List.length_take, List.length_drop, vi_len, vb_len, vo_len, vl_len, vn_len]; omega)) only [↓EC, EV, EL, E2, E3, ER, seval, ↓reduceIte, false_imp_iff, e3])
        exact ⟨t + min t (k - t), by simp, rfl, ⟨by omega, by omega⟩, by omega⟩
      · (try simp (disch := first | omega | (simp only [List.length_append, List.length_cons, List.length_nil, List.length_replicate, List.length_set, List.length_take, List.length_drop, vi_len, vb_len, vo_len, vl_len, vn_len]; omega)) only [↓EC, EV, EL, E2, E3, ER, seval, ↓reduceIte, false_imp_iff])
        have : t = k := by omega
        subst this
        simp
end Go.Proofs.Ytlfpiegadaiafaa.Sep
