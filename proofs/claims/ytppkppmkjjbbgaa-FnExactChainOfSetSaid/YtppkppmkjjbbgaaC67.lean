/- Sorting by a function and leaving out doubles: slices.SortFunc, slices.Compact. -/
import Derived.Test.YtppkppmkjjbbgaaC66
namespace Go.Proofs.Ytppkppmkjjbbgaa.Sep
open Go.RowKit
set_option linter.unusedVariables false
set_option linter.unusedSimpArgs false
set_option maxRecDepth 20000
set_option maxHeartbeats 4000000

theorem g2_of {l : List (Int × Int)} {i : Nat} (hi : i < l.length) : g2 l i = l[i] := by simp [g2, List.getD, hi]
/-! ### One step of the sort -/
def swpF (m : List (Int × Int)) (j : Nat) : List (Int × Int) := (m.set j (g2 m (j - 1))).set (j - 1) (g2 m j)
theorem swpF_len {m : List (Int × Int)} {j : Nat} : (swpF m j).length = m.length := by simp [swpF]
theorem swpF_get {m : List (Int × Int)} {j q : Nat} (h0 : 0 < j) (hj : j < m.length) (hq : q < m.length) : g2 (swpF m j) q = if q = j then g2 m (j - 1) else if q = j - 1 then g2 m j else g2 m q := by
  unfold swpF
  rw [g2_set, g2_set]
  simp only [List.length_set]
  by_cases h1 : q = j
  · subst h1
    rw [if_neg (by omega), if_pos ⟨rfl, hq⟩, if_pos rfl]
  · by_cases h2 : q = j - 1
    · subst h2
      rw [if_pos ⟨rfl, hq⟩, if_neg h1, if_pos rfl]
    · rw [if_neg (by omega), if_neg (by omega), if_neg h1, if_neg h2]
theorem swpF_mem {m : List (Int × Int)} {j : Nat} (h0 : 0 < j) (hj : j < m.length) (x : Int × Int) : x ∈ swpF m j ↔ x ∈ m := by
  rw [mem_g2, mem_g2]
  constructor
  · rintro ⟨q, hq, rfl⟩
    rw [swpF_len] at hq
    rw [swpF_get h0 hj hq]
    split
    · exact ⟨j - 1, by omega, rfl⟩
    · split
      · exact ⟨j, hj, rfl⟩
      · exact ⟨q, hq, rfl⟩
  · rintro ⟨q, hq, rfl⟩
    by_cases h1 : q = j
    · subst h1
      exact ⟨q - 1, by rw [swpF_len]; omega, by rw [swpF_get h0 hj (by omega), if_neg (by omega), if_pos rfl]⟩
    · by_cases h2 : q = j - 1
      · subst h2
        exact ⟨j, by rw [swpF_len]; omega, by rw [swpF_get h0 hj hj, if_pos rfl]⟩
      · exact ⟨q, by rw [swpF_len]; exact hq, by rw [swpF_get h0 hj hq, if_neg h1, if_neg h2]⟩
/-- In order but for the place 'j'. -/
def butF (m : List (Int × Int)) (i j : Nat) : Prop := ∀ p q, p < q → q ≤ i → q ≠ j → ¬ cmpF (g2 m q) (g2 m p) < 0
theorem butF_step {m : List (Int × Int)} {i j : Nat} (hF : ∀ q, q < m.length → isF (g2 m q) = true) (h : butF m i j) (h0 : 0 < j) (hj : j ≤ i) (hi : i < m.length) (hc : cmpF (g2 m j) (g2 m (j - 1)) < 0) : butF (swpF m j) i (j - 1) := by
  intro p q hpq hq hne
  rw [swpF_get h0 (by omega) (by omega), swpF_get h0 (by omega) (by omega)]
  have hle : ¬ cmpF (g2 m (j - 1)) (g2 m j) < 0 := cmpF_asym (hF _ (by omega)) (hF _ (by omega)) hc
  by_cases q1 : q = j
  · subst q1
    rw [if_pos rfl, if_neg (by omega)]
    by_cases p1 : p = q - 1
    · rw [if_pos p1]; exact hle
    · rw [if_neg p1]; exact h p (q - 1) (by omega) (by omega) (by omega)
  · rw [if_neg q1, if_neg hne]
    by_cases p1 : p = j
    · rw [if_pos p1]; exact h (j - 1) q (by omega) hq q1
    · rw [if_neg p1]
      by_cases p2 : p = j - 1
      · rw [if_pos p2]
        exact h j q (by omega) hq q1
      · rw [if_neg p2]; exact h p q hpq hq q1
theorem butF_end {m : List (Int × Int)} {i j : Nat} (hF : ∀ q, q < m.length → isF (g2 m q) = true) (h : butF m i j) (hj : j ≤ i) (hi : i < m.length) (hc : j = 0 ∨ ¬ cmpF (g2 m j) (g2 m (j - 1)) < 0) : wkF m (i + 1) := by
  intro p q hpq hq
  by_cases q1 : q = j
  · subst q1
    have hc' : ¬ cmpF (g2 m q) (g2 m (q - 1)) < 0 := by rcases hc with h1 | h1; omega; exact h1
    by_cases p1 : p = q - 1
    · rw [p1]; exact hc'
    · exact leF_trans (hF p (by omega)) (hF (q - 1) (by omega)) (hF q (by omega)) (h p (q - 1) (by omega) (by omega) (by omega)) hc'
  · exact h p q hpq (by omega) q1
theorem cmpFn : isFn Try.prog 61 = true := by kernel_rfl
theorem c_impl_compare {a b : Int × Int} (ha : isF a = true) (hb : isF b = true) : PSpec Try.prog 61 [.agg [.int .i64 a.1, .int .i64 a.2], .agg [.int .i64 b.1, .int .i64 b.2]] fun v => v = .int .i64 (cmpF a b) := c_impl_compareFractions ha hb
theorem c_insertionSortF {l : List (Int × Int)} {n : Nat} (hn : l.length = n) (hl : n ≤ 12) (hF : allF l) :
    PSpecM Try.prog 96 [.rf 0 0 n, .int .i64 0, .int .i64 n, .fn 61 []] [(0, 36, 2)] [v2 .i64 l]
      fun v c => v = .tup [] ∧ ∃ m, c = [v2 .i64 m] ∧ m.length = n ∧ (∀ x, x ∈ m ↔ x ∈ l) ∧ wkF m n := by
  subst hn
  refine slices_insertionSortCmpFunc_impl_Fraction_f.m rfl rfl ?_
  simp (disch := first | omega | (simp only [List.length_append, List.length_cons, List.length_nil, List.length_replicate, List.length_set, List.length_take, List.length_drop, vi_len, vb_len, vo_len, vl_len, vn_len]; omega)) only [↓EC, EV, EL, E2, E3, ER, seval, ↓reduceIte, false_imp_iff, slices_insertionSortCmpFunc_impl_Fraction_F]
  refine LP_of (σ := Nat × List (Int × Int)) 100000 [(0, 36, 2)] (fun s => [.int .i64 s.1]) (fun s => [v2 .i64 s.2])
    (fun s => 1 ≤ s.1 ∧ s.1 ≤ 12 ∧ s.2.length = l.length ∧ (∀ x, x ∈ s.2 ↔ x ∈ l) ∧ wkF s.2 s.1) (fun s => l.length - s.1) (1, l) (by simp [frameOk, names, lpz, sclp, scv, scvs, vi_nrf, vb_nrf, vt_nrf, v2_nrf, v3_nrf, nrfs, nrf, sc_vi, sc_vb, sc_vt, sc_v2, sc_v3, sc_vo, sc_vl, vo_nrf, vl_nrf, sc_vn, vn_nrf]) ⟨by simp, by simp, rfl, fun x => Iff.rfl, fun p q hp hq => by simp only at hq; omega⟩ ?_ ?_
  · simp (disch := first | omega | (simp only [List.length_append, List.length_cons, List.length_nil, List.length_replicate, List.length_set, List.length_take, List.length_drop, vi_len, vb_len, vo_len, vl_len, vn_len]; omega)) only [↓EC, EV, EL, E2, E3, ER, seval, ↓reduceIte, false_imp_iff, ColV_def]
  · rintro ⟨i, m⟩ ⟨h1, h2, h3, h4, h5⟩
    simp only at h1 h2 h3 h4 h5
    simp (disch := first | omega | (simp only [List.length_append, List.length_cons, List.length_nil, List.length_replicate, List.length_set, List.length_take, List.length_drop, vi_len, vb_len, vo_len, vl_len, vn_len]; omega)) only [↓EC, EV, EL, E2, E3, ER, seval, ↓reduceIte, false_imp_iff, ColV_def, lheap_def]
    (refine Split.mk (fun h => ?_) (fun h => ?_) <;> (try simp only [decide_eq_true_eq, decide_eq_false_iff_not, beq_iff_eq, bne_iff_ne, beq_eq_false_iff_ne, bne_eq_false_iff_eq, Bool.not_eq_true', Bool.not_eq_false', Bool.and_eq_true, Bool.or_eq_true, Bool.and_eq_false_iff, Bool.or_eq_false_iff, Int.not_lt, Int.not_le, Bool.false_eq_true, Bool.true_eq_false, false_and, and_false, true_and, and_true, or_false, false_or, or_true, true_or, not_true_eq_false, not_false_eq_true] at h))
    · (try simp (disch := first | omega | (simp only [List.length_append, List.length_cons, List.length_nil, List.length_replicate, List.length_set, List.length_take, List.length_drop, vi_len, vb_len, vo_len, vl_len, vn_len]; omega)) only [↓EC, EV, EL, E2, E3, ER, seval, ↓reduceIte, false_imp_iff])
      refine LP_of (σ := Nat × List (Int × Int)) 200000 [(0, 36, 2)] (fun s => [.int .i64 s.1]) (fun s => [v2 .i64 s.2])
        (fun s => s.1 ≤ i ∧ s.2.length = l.length ∧ (∀ x, x ∈ s.2 ↔ x ∈ l) ∧ butF s.2 i s.1) (fun s => s.1) (i, m) (by simp [frameOk, names, lpz, sclp, scv, scvs, vi_nrf, vb_nrf, vt_nrf, v2_nrf, v3_nrf, nrfs, nrf, sc_vi, sc_vb, sc_vt, sc_v2, sc_v3, sc_vo, sc_vl, vo_nrf, vl_nrf, sc_vn, vn_nrf]) ⟨by simp, h3, h4, fun p q hp hq hne => h5 p q hp (by simp only at hne; omega)⟩ ?_ ?_
      · simp (disch := first | omega | (simp only [List.length_append, List.length_cons, List.length_nil, List.length_replicate, List.length_set, List.length_take, List.length_drop, vi_len, vb_len, vo_len, vl_len, vn_len]; omega)) only [↓EC, EV, EL, E2, E3, ER, seval, ↓reduceIte, false_imp_iff, ColV_def]
      · rintro ⟨j, m⟩ ⟨g1, g2', g3', g4⟩
        simp only at g1 g2' g3' g4
        have hFm : ∀ q, q < m.length → isF (g2 m q) = true := fun q hq => hF _ ((g3' _).1 (mem_g2.2 ⟨q, hq, rfl⟩))
        have hi : i < m.length := by omega
        simp (disch := first | omega | (simp only [List.length_append, List.length_cons, List.length_nil, List.length_replicate, List.length_set, List.length_take, List.length_drop, vi_len, vb_len, vo_len, vl_len, vn_len]; omega)) only [↓EC, EV, EL, E2, E3, ER, seval, ↓reduceIte, false_imp_iff, ColV_def, lheap_def, cmpFn]
        have hjp : ((j : Int) - 1).toNat = j - 1 := by omega
        (try simp (disch := first | omega | (simp only [List.length_append, List.length_cons, List.length_nil, List.length_replicate, List.length_set, List.length_take, List.length_drop, vi_len, vb_len, vo_len, vl_len, vn_len]; omega)) only [↓EC, EV, EL, E2, E3, ER, seval, ↓reduceIte, false_imp_iff, hjp])
        (refine Split.mk (fun h => ?_) (fun h => ?_) <;> (try simp only [decide_eq_true_eq, decide_eq_false_iff_not, beq_iff_eq, bne_iff_ne, beq_eq_false_iff_ne, bne_eq_false_iff_eq, Bool.not_eq_true', Bool.not_eq_false', Bool.and_eq_true, Bool.or_eq_true, Bool.and_eq_false_iff, Bool.or_eq_false_iff, Int.not_lt, Int.not_le, Bool.false_eq_true, Bool.true_eq_false, false_and, and_false, true_and, and_true, or_false, false_or, or_true, true_or, not_true_eq_false, not_false_eq_true] at h))
        · (try simp (disch := first | omega | (simp only [List.length_append, List.length_cons, List.length_nil, List.length_replicate, List.length_set, List.length_take, List.length_drop, vi_len, vb_len, vo_len, vl_len, vn_len]; omega)) only [↓EC, EV, EL, E2, E3, ER, seval, ↓reduceIte, false_imp_iff, hjp])
          refine pcd_v (c_impl_compare (a := g2 m j) (b := g2 m (j - 1)) (hFm _ (by omega)) (hFm _ (by omega))) ?_
          (try simp (disch := first | omega | (simp only [List.length_append, List.length_cons, List.length_nil, List.length_replicate, List.length_set, List.length_take, List.length_drop, vi_len, vb_len, vo_len, vl_len, vn_len]; omega)) only [↓EC, EV, EL, E2, E3, ER, seval, ↓reduceIte, false_imp_iff])
          (refine Split.mk (fun h => ?_) (fun h => ?_) <;> (try simp only [decide_eq_true_eq, decide_eq_false_iff_not, beq_iff_eq, bne_iff_ne, beq_eq_false_iff_ne, bne_eq_false_iff_eq, Bool.not_eq_true', Bool.not_eq_false', Bool.and_eq_true, Bool.or_eq_true, Bool.and_eq_false_iff, Bool.or_eq_false_iff, Int.not_lt, Int.not_le, Bool.false_eq_true, Bool.true_eq_false, false_and, and_false, true_and, and_true, or_false, false_or, or_true, true_or, not_true_eq_false, not_false_eq_true] at h))
          · (try simp (disch := first | omega | (simp only [List.length_append, List.length_cons, List.length_nil, List.length_replicate, List.length_set, List.length_take, List.length_drop, vi_len, vb_len, vo_len, vl_len, vn_len]; omega)) only [↓EC, EV, EL, E2, E3, ER, seval, ↓reduceIte, false_imp_iff, hjp])
            exact ⟨(j - 1, swpF m j), by simp; omega, rfl, ⟨by simp only; omega, by rw [swpF_len]; exact g2', fun x => by rw [swpF_mem (by omega) (by omega)]; exact g3' x, butF_step hFm g4 (by omega) g1 hi h⟩, by simp only; omega⟩
          · have hh : ¬ cmpF (g2 m j) (g2 m (j - 1)) < 0 := by omega
            (try simp (disch := first | omega | (simp only [List.length_append, List.length_cons, List.length_nil, List.length_replicate, List.length_set, List.length_take, List.length_drop, vi_len, vb_len, vo_len, vl_len, vn_len]; omega)) only [↓EC, EV, EL, E2, E3, ER, seval, ↓reduceIte, false_imp_iff])
            exact ⟨(i + 1, m), by simp, rfl, ⟨by simp only; omega, by simp only; omega, g2', g3', butF_end hFm g4 g1 hi (.inr hh)⟩, by simp only; omega⟩
        · have hj0 : j = 0 := by omega
          subst hj0
          (try simp (disch := first | omega | (simp only [List.length_append, List.length_cons, List.length_nil, List.length_replicate, List.length_set, List.length_take, List.length_drop, vi_len, vb_len, vo_len, vl_len, vn_len]; omega)) only [↓EC, EV, EL, E2, E3, ER, seval, ↓reduceIte, false_imp_iff])
          exact ⟨(i + 1, m), by simp, rfl, ⟨by simp only; omega, by simp only; omega, g2', g3', butF_end hFm g4 (by omega) hi (.inl rfl)⟩, by simp only; omega⟩
    · (try simp (disch := first | omega | (simp only [List.length_append, List.length_cons, List.length_nil, List.length_replicate, List.length_set, List.length_take, List.length_drop, vi_len, vb_len, vo_len, vl_len, vn_len]; omega)) only [↓EC, EV, EL, E2, E3, ER, seval, ↓reduceIte, false_imp_iff])
      exact ⟨m, rfl, h3, h4, fun p q hp hq => h5 p q hp (by omega)⟩
theorem c_pdqsortF {l : List (Int × Int)} {n : Nat} {k : Int} (hn : l.length = n) (hl : n ≤ 12) (hF : allF l) :
    PSpecM Try.prog 82 [.rf 0 0 n, .int .i64 0, .int .i64 n, .int .i64 k, .fn 61 []] [(0, 36, 2)] [v2 .i64 l]
      fun v c => v = .tup [] ∧ ∃ m, c = [v2 .i64 m] ∧ m.length = n ∧ (∀ x, x ∈ m ↔ x ∈ l) ∧ wkF m n := by
  subst hn
  refine slices_pdqsortCmpFunc_impl_Fraction_f.m rfl rfl ?_
  simp (config := { maxSteps := 10000000 }) (disch := first | omega | (simp only [List.length_append, List.length_cons, List.length_nil, List.length_replicate, List.length_set, List.length_take, List.length_drop, vi_len, vb_len, vo_len, vl_len, vn_len]; omega)) only [↓EC, EV, EL, E2, E3, ER, seval, ↓reduceIte, false_imp_iff, slices_pdqsortCmpFunc_impl_Fraction_F]
  refine LP_of (σ := Unit) 100000 [(0, 36, 2)] (fun s => [.int .i64 0, .int .i64 l.length, .int .i64 k, .bool true, .bool true]) (fun s => [v2 .i64 l])
    (fun s => True) (fun s => 0) () (by simp [frameOk, names, lpz, sclp, scv, scvs, vi_nrf, vb_nrf, vt_nrf, v2_nrf, v3_nrf, nrfs, nrf, sc_vi, sc_vb, sc_vt, sc_v2, sc_v3, sc_vo, sc_vl, vo_nrf, vl_nrf, sc_vn, vn_nrf]) trivial ?_ ?_
  · simp (disch := first | omega | (simp only [List.length_append, List.length_cons, List.length_nil, List.length_replicate, List.length_set, List.length_take, List.length_drop, vi_len, vb_len, vo_len, vl_len, vn_len]; omega)) only [↓EC, EV, EL, E2, E3, ER, seval, ↓reduceIte, false_imp_iff, ColV_def]
  · rintro _ _
    simp (disch := first | omega | (simp only [List.length_append, List.length_cons, List.length_nil, List.length_replicate, List.length_set, List.length_take, List.length_drop, vi_len, vb_len, vo_len, vl_len, vn_len]; omega)) only [↓EC, EV, EL, E2, E3, ER, seval, ↓reduceIte, false_imp_iff, ColV_def, lheap_def]
    refine Split.mk (fun _ => ?_) (fun h => by simp only [decide_eq_false_iff_not] at h; omega)
    refine pcm [0] rfl ?_
    (try simp (disch := first | omega | (simp only [List.length_append, List.length_cons, List.length_nil, List.length_replicate, List.length_set, List.length_take, List.length_drop, vi_len, vb_len, vo_len, vl_len, vn_len]; omega)) only [↓EC, EV, EL, E2, E3, ER, seval, ↓reduceIte, false_imp_iff])
    refine callM_q (c_insertionSortF rfl hl hF) ?_
    rintro v c ⟨rfl, m, rfl, q1, q2, q3⟩
    (try simp (disch := first | omega | (simp only [List.length_append, List.length_cons, List.length_nil, List.length_replicate, List.length_set, List.length_take, List.length_drop, vi_len, vb_len, vo_len, vl_len, vn_len]; omega)) only [↓EC, EV, EL, E2, E3, ER, seval, ↓reduceIte, false_imp_iff])
    exact ⟨m, rfl, q1, q2, q3⟩
theorem c_Len64n {n : Nat} (hn : n ≤ 12) : PSpec Try.prog 95 [.int .u64 n] fun v => ∃ k : Int, v = .int .i64 k := by
  refine math_bits_Len64_f.f ?_
  have : n = 0 ∨ n = 1 ∨ n = 2 ∨ n = 3 ∨ n = 4 ∨ n = 5 ∨ n = 6 ∨ n = 7 ∨ n = 8 ∨ n = 9 ∨ n = 10 ∨ n = 11 ∨ n = 12 := by omega
  rcases this with rfl | rfl | rfl | rfl | rfl | rfl | rfl | rfl | rfl | rfl | rfl | rfl | rfl
  all_goals (simp (config := { maxSteps := 10000000 }) (disch := first | omega | (simp only [List.length_append, List.length_cons, List.length_nil, List.length_replicate, List.length_set, List.length_take, List.length_drop, vi_len, vb_len, vo_len, vl_len, vn_len]; omega)) only [↓EC, EV, EL, E2, E3, ER, seval, ↓reduceIte, false_imp_iff, math_bits_Len64_F])
  all_goals exact ⟨_, rfl⟩
theorem c_Lenn {n : Nat} (hn : n ≤ 12) : PSpec Try.prog 81 [.int .u64 n] fun v => ∃ k : Int, v = .int .i64 k := by
  refine math_bits_Len_f.f ?_
  simp (disch := first | omega | (simp only [List.length_append, List.length_cons, List.length_nil, List.length_replicate, List.length_set, List.length_take, List.length_drop, vi_len, vb_len, vo_len, vl_len, vn_len]; omega)) only [↓EC, EV, EL, E2, E3, ER, seval, ↓reduceIte, false_imp_iff, math_bits_Len_F]
  refine pcd_r (c_Len64n hn) ?_
  rintro _ ⟨k, rfl⟩
  (try simp (disch := first | omega | (simp only [List.length_append, List.length_cons, List.length_nil, List.length_replicate, List.length_set, List.length_take, List.length_drop, vi_len, vb_len, vo_len, vl_len, vn_len]; omega)) only [↓EC, EV, EL, E2, E3, ER, seval, ↓reduceIte, false_imp_iff])
  try exact ⟨_, rfl⟩
theorem c_SortFunc {l : List (Int × Int)} {n : Nat} (hn : l.length = n) (hl : n ≤ 12) (hF : allF l) :
    PSpecM Try.prog 72 [.rf 0 0 n, .fn 61 []] [(0, 36, 2)] [v2 .i64 l]
      fun v c => v = .tup [] ∧ ∃ m, c = [v2 .i64 m] ∧ m.length = n ∧ (∀ x, x ∈ m ↔ x ∈ l) ∧ wkF m n := by
  subst hn
  refine slices_SortFunc_impl_Fraction_impl_Fraction_f.m rfl rfl ?_
  simp (disch := first | omega | (simp only [List.length_append, List.length_cons, List.length_nil, List.length_replicate, List.length_set, List.length_take, List.length_drop, vi_len, vb_len, vo_len, vl_len, vn_len]; omega)) only [↓EC, EV, EL, E2, E3, ER, seval, ↓reduceIte, false_imp_iff, slices_SortFunc_impl_Fraction_impl_Fraction_F]
  refine pcd_r (c_Lenn hl) ?_
  rintro _ ⟨k, rfl⟩
  (try simp (disch := first | omega | (simp only [List.length_append, List.length_cons, List.length_nil, List.length_replicate, List.length_set, List.length_take, List.length_drop, vi_len, vb_len, vo_len, vl_len, vn_len]; omega)) only [↓EC, EV, EL, E2, E3, ER, seval, ↓reduceIte, false_imp_iff])
  refine pcm [0] rfl ?_
  (try simp (disch := first | omega | (simp only [List.length_append, List.length_cons, List.length_nil, List.length_replicate, List.length_set, List.length_take, List.length_drop, vi_len, vb_len, vo_len, vl_len, vn_len]; omega)) only [↓EC, EV, EL, E2, E3, ER, seval, ↓reduceIte, false_imp_iff])
  refine callM_q (c_pdqsortF rfl hl hF) ?_
  rintro v c ⟨rfl, m, rfl, q1, q2, q3⟩
  (try simp (disch := first | omega | (simp only [List.length_append, List.length_cons, List.length_nil, List.length_replicate, List.length_set, List.length_take, List.length_drop, vi_len, vb_len, vo_len, vl_len, vn_len]; omega)) only [↓EC, EV, EL, E2, E3, ER, seval, ↓reduceIte, false_imp_iff])
  exact ⟨m, rfl, q1, q2, q3⟩
end Go.Proofs.Ytppkppmkjjbbgaa.Sep
