/- What the functions that make and compare fractions compute. -/
import Derived.Test.YtlfpiegadaiafaaC11
namespace Go.Proofs.Ytlfpiegadaiafaa.Sep
open Go.RowKit
set_option linter.unusedVariables false
set_option linter.unusedSimpArgs false
set_option maxRecDepth 20000

/-- The fraction in least terms: (1, 0) where the denominator is 0. -/
def gOf (n d : Int) : Int := if d < 0 ∨ d = 0 ∧ n < 0 then -(Int.gcd n d : Int) else (Int.gcd n d : Int)
def numOf (n d : Int) : Int := n.tdiv (gOf n d)
def denOf (n d : Int) : Int := d.tdiv (gOf n d)

theorem gcd_pos {n d : Int} (h : n ≠ 0 ∨ d ≠ 0) : 0 < (Int.gcd n d : Int) := by
  have : Int.gcd n d ≠ 0 := by
    intro h0
    rw [Int.gcd_eq_zero_iff] at h0
    omega
  omega
theorem gcd_le {n d : Int} (B : Nat) (hn : n.natAbs ≤ B) (hd : d.natAbs ≤ B) : Int.gcd n d ≤ B := by
  by_cases h : n = 0
  · subst h; simpa using hd
  · have := Int.gcd_le_natAbs_left (b := d) h
    omega
theorem gOf_ne {n d : Int} (h : n ≠ 0 ∨ d ≠ 0) : gOf n d ≠ 0 := by
  have := gcd_pos h
  unfold gOf; split <;> omega
theorem numOf_zero {n : Int} (h : n ≠ 0) : numOf n 0 = 1 ∧ denOf n 0 = 0 := by
  unfold numOf denOf gOf
  simp only [Int.gcd_zero, Int.zero_tdiv, and_true, Int.lt_irrefl, false_or, true_and]
  split
  · have : -(n.natAbs : Int) = n := by omega
    rw [this]; exact Int.tdiv_self h
  · have : (n.natAbs : Int) = n := by omega
    rw [this]; exact Int.tdiv_self h
theorem gcd_dvd_tdiv {n d g : Int} (hg : g ≠ 0) (h : g.natAbs = Int.gcd n d) : Int.gcd (n.tdiv g) (d.tdiv g) = 1 := by
  have h1 : g ∣ n := by
    have := Int.gcd_dvd_left (a := n) (b := d)
    rw [← h] at this
    exact Int.natAbs_dvd.1 this
  have h2 : g ∣ d := by
    have := Int.gcd_dvd_right (a := n) (b := d)
    rw [← h] at this
    exact Int.natAbs_dvd.1 this
  obtain ⟨a, rfl⟩ := h1
  obtain ⟨b, rfl⟩ := h2
  rw [Int.mul_tdiv_cancel_left _ hg, Int.mul_tdiv_cancel_left _ hg]
  rw [Int.gcd_mul_left] at h
  have : 0 < g.natAbs := by omega
  exact Nat.eq_of_mul_eq_mul_left this (by omega)
theorem tdiv_lim {n g : Int} (B : Int) (hn : -B ≤ n ∧ n ≤ B) : -B ≤ n.tdiv g ∧ n.tdiv g ≤ B := by
  have := Int.natAbs_tdiv_le_natAbs n g
  omega
theorem gOf_abs {n d : Int} : (gOf n d).natAbs = Int.gcd n d := by
  unfold gOf; split <;> omega
theorem denOf_nn {n d : Int} : 0 ≤ denOf n d := by
  unfold denOf gOf
  split
  · rw [Int.tdiv_neg]
    by_cases h : d = 0
    · subst h; simp
    · have := Int.tdiv_nonneg (a := -d) (b := (Int.gcd n d : Int)) (by omega) (by omega)
      rw [Int.neg_tdiv] at this
      exact this
  · exact Int.tdiv_nonneg (by omega) (by omega)
theorem isFr_of {n d : Int} (h : n ≠ 0 ∨ d ≠ 0) (hn : -1000000000 ≤ n ∧ n ≤ 1000000000) (hd : -1000000000 ≤ d ∧ d ≤ 1000000000) : isFr (numOf n d) (denOf n d) = true := by
  have h1 := tdiv_lim (g := gOf n d) 1000000000 hn
  have h2 := tdiv_lim (g := gOf n d) 1000000000 hd
  have h3 := gcd_dvd_tdiv (gOf_ne h) gOf_abs
  have h4 := denOf_nn (n := n) (d := d)
  have h5 : 0 < denOf n d ∨ numOf n d = 1 := by
    by_cases hz : d = 0
    · subst hz; exact .inr (numOf_zero (by omega)).1
    · left
      have : denOf n d ≠ 0 := by
        intro h0
        have hdv : gOf n d ∣ d := by
          have := Int.gcd_dvd_right (a := n) (b := d)
          rw [← gOf_abs] at this
          exact Int.natAbs_dvd.1 this
        have := Int.mul_tdiv_cancel' hdv
        unfold denOf at h0
        rw [h0] at this
        omega
      omega
  unfold isFr
  simp only [decide_eq_true_eq]
  unfold numOf denOf at *
  exact ⟨h1.1, h1.2, h4, h2.2, h3, h5⟩

/-- The limits of sums and products below which the fraction is reduced. -/
def lim62 (n : Int) : Prop := -4611686018427387904 ≤ n ∧ n ≤ 4611686018427387904

theorem c_spec_l10Make {n d : Int} (h0 : n ≠ 0 ∨ d ≠ 0) (hn : lim62 n) (hd : lim62 d) :
    PSpec Try.prog 49 [.int .i64 n, .int .i64 d] fun v => v = .tup [.agg [.int .i64 (numOf n d), .int .i64 (denOf n d)], .bool (isFr (numOf n d) (denOf n d))] := by
  unfold lim62 at hn hd
  refine spec_l10Make_f.f ?_
  simp (disch := first | omega | (simp only [List.length_append, List.length_cons, List.length_nil, List.length_replicate, List.length_set, List.length_take, List.length_drop, vi_len, vb_len, vo_len, vl_len, vn_len]; omega)) only [↓EC, EV, EL, E2, E3, ER, seval, ↓reduceIte, false_imp_iff, spec_l10Make_F]
  have hg := gcd_pos h0
  have hl := gcd_le 4611686018427387904 (n := n) (d := d) (by omega) (by omega)
  have tl := tdiv_lim (n := n) (g := gOf n d) 4611686018427387904 hn
  have tm := tdiv_lim (n := d) (g := gOf n d) 4611686018427387904 hd
  repeat' first
    | (refine pcd_v (c_spec_l10Common (by omega) (by omega)) ?_; (try simp (disch := first | omega | (simp only [List.length_append, List.length_cons, List.length_nil, List.length_replicate, List.length_set, List.length_take, List.length_drop, vi_len, vb_len, vo_len, vl_len, vn_len]; omega)) only [↓EC, EV, EL, E2, E3, ER, seval, ↓reduceIte, false_imp_iff]))
    | (refine Split.mk (fun h => ?_) (fun h => ?_) <;> (try simp only [decide_eq_true_eq, decide_eq_false_iff_not, beq_iff_eq, bne_iff_ne, beq_eq_false_iff_ne, bne_eq_false_iff_eq, Bool.not_eq_true', Bool.not_eq_false', Bool.and_eq_true, Bool.or_eq_true, Bool.and_eq_false_iff, Bool.or_eq_false_iff, Int.not_lt, Int.not_le, Bool.false_eq_true, Bool.true_eq_false, false_and, and_false, true_and, and_true, or_false, false_or, or_true, true_or, not_true_eq_false, not_false_eq_true] at h))
  all_goals
    first
    | (have e : gOf n d = -(Int.gcd n d : Int) := by (unfold gOf; grind)
       rw [← e])
    | (have e : gOf n d = (Int.gcd n d : Int) := by (unfold gOf; grind)
       rw [← e])
  all_goals
    ((try simp (disch := first | omega | (simp only [List.length_append, List.length_cons, List.length_nil, List.length_replicate, List.length_set, List.length_take, List.length_drop, vi_len, vb_len, vo_len, vl_len, vn_len]; omega)) only [↓EC, EV, EL, E2, E3, ER, seval, ↓reduceIte, false_imp_iff]); (refine pcd_v (c_spec_l10Is) ?_; (try simp (disch := first | omega | (simp only [List.length_append, List.length_cons, List.length_nil, List.length_replicate, List.length_set, List.length_take, List.length_drop, vi_len, vb_len, vo_len, vl_len, vn_len]; omega)) only [↓EC, EV, EL, E2, E3, ER, seval, ↓reduceIte, false_imp_iff])); rfl)
/-- What FractionOf answers: the fraction and a code. -/
def frOf (n d : Int) : V := if -1000000000 ≤ n ∧ n ≤ 1000000000 ∧ -1000000000 ≤ d ∧ d ≤ 1000000000 ∧ (n ≠ 0 ∨ d ≠ 0) then .tup [.agg [.int .i64 (numOf n d), .int .i64 (denOf n d)], .int .i64 0] else .tup [.agg [.int .i64 0, .int .i64 0], .int .i64 2]
theorem frOf_1 {n d : Int} (h : -1000000000 ≤ n ∧ n ≤ 1000000000 ∧ -1000000000 ≤ d ∧ d ≤ 1000000000 ∧ (n ≠ 0 ∨ d ≠ 0)) : frOf n d = .tup [.agg [.int .i64 (numOf n d), .int .i64 (denOf n d)], .int .i64 0] := if_pos h
theorem frOf_2 {n d : Int} (h : ¬ (-1000000000 ≤ n ∧ n ≤ 1000000000 ∧ -1000000000 ≤ d ∧ d ≤ 1000000000 ∧ (n ≠ 0 ∨ d ≠ 0))) : frOf n d = .tup [.agg [.int .i64 0, .int .i64 0], .int .i64 2] := if_neg h
theorem c_spec_FractionOf {n d : Int} : PSpec Try.prog 8 [.int .i64 n, .int .i64 d] fun v => v = frOf n d := by
  refine spec_FractionOf_f.f ?_
  simp (disch := first | omega | (simp only [List.length_append, List.length_cons, List.length_nil, List.length_replicate, List.length_set, List.length_take, List.length_drop, vi_len, vb_len, vo_len, vl_len, vn_len]; omega)) only [↓EC, EV, EL, E2, E3, ER, seval, ↓reduceIte, false_imp_iff, spec_FractionOf_F]
  repeat' first
    | (refine Split.mk (fun h => ?_) (fun h => ?_) <;> (try simp only [decide_eq_true_eq, decide_eq_false_iff_not, beq_iff_eq, bne_iff_ne, beq_eq_false_iff_ne, bne_eq_false_iff_eq, Bool.not_eq_true', Bool.not_eq_false', Bool.and_eq_true, Bool.or_eq_true, Bool.and_eq_false_iff, Bool.or_eq_false_iff, Int.not_lt, Int.not_le, Bool.false_eq_true, Bool.true_eq_false, false_and, and_false, true_and, and_true, or_false, false_or, or_true, true_or, not_true_eq_false, not_false_eq_true] at h))
    | (refine pcd_v (c_spec_l01In0) ?_; (try simp (disch := first | omega | (simp only [List.length_append, List.length_cons, List.length_nil, List.length_replicate, List.length_set, List.length_take, List.length_drop, vi_len, vb_len, vo_len, vl_len, vn_len]; omega)) only [↓EC, EV, EL, E2, E3, ER, seval, ↓reduceIte, false_imp_iff]))
    | (refine pcd_v (c_spec_l10Make (by omega) (by unfold lim62; omega) (by unfold lim62; omega)) ?_; (try simp (disch := first | omega | (simp only [List.length_append, List.length_cons, List.length_nil, List.length_replicate, List.length_set, List.length_take, List.length_drop, vi_len, vb_len, vo_len, vl_len, vn_len]; omega)) only [↓EC, EV, EL, E2, E3, ER, seval, ↓reduceIte, false_imp_iff]))
  all_goals (first | exact (frOf_2 (by omega)).symm | exact (frOf_1 (by omega)).symm)
theorem c_impl_FractionOf {n d : Int} : PSpec Try.prog 7 [.int .i64 n, .int .i64 d] fun v => v = frOf n d := by
  refine impl_FractionOf_f.f ?_
  simp (disch := first | omega | (simp only [List.length_append, List.length_cons, List.length_nil, List.length_replicate, List.length_set, List.length_take, List.length_drop, vi_len, vb_len, vo_len, vl_len, vn_len]; omega)) only [↓EC, EV, EL, E2, E3, ER, seval, ↓reduceIte, false_imp_iff, impl_FractionOf_F]
  repeat' first
    | (refine Split.mk (fun h => ?_) (fun h => ?_) <;> (try simp only [decide_eq_true_eq, decide_eq_false_iff_not, beq_iff_eq, bne_iff_ne, beq_eq_false_iff_ne, bne_eq_false_iff_eq, Bool.not_eq_true', Bool.not_eq_false', Bool.and_eq_true, Bool.or_eq_true, Bool.and_eq_false_iff, Bool.or_eq_false_iff, Int.not_lt, Int.not_le, Bool.false_eq_true, Bool.true_eq_false, false_and, and_false, true_and, and_true, or_false, false_or, or_true, true_or, not_true_eq_false, not_false_eq_true] at h))
    | (have hd : n ≠ 0 ∨ d ≠ 0 := by omega
       have hg := gcd_pos hd
       have hl := gcd_le 1000000000 (n := n) (d := d) (by omega) (by omega)
       refine pcd_v (c_impl_gcd (by omega) (by omega)) ?_
       (try simp (disch := first | omega | (simp only [List.length_append, List.length_cons, List.length_nil, List.length_replicate, List.length_set, List.length_take, List.length_drop, vi_len, vb_len, vo_len, vl_len, vn_len]; omega)) only [↓EC, EV, EL, E2, E3, ER, seval, ↓reduceIte, false_imp_iff]))
  all_goals
    try first
    | exact (frOf_2 (by omega)).symm
    | (rw [frOf_1 (by omega)]
       subst d
       rw [(numOf_zero (by omega)).1, (numOf_zero (by omega)).2])
  all_goals
    first
    | (have e : gOf n d = -(Int.gcd n d : Int) := by (unfold gOf; grind)
       rw [← e])
    | (have e : gOf n d = (Int.gcd n d : Int) := by (unfold gOf; grind)
       rw [← e])
  all_goals
    (have tl := tdiv_lim (n := n) (g := gOf n d) 1000000000 (by omega)
     have tm := tdiv_lim (n := d) (g := gOf n d) 1000000000 (by omega)
     (try simp (disch := first | omega | (simp only [List.length_append, List.length_cons, List.length_nil, List.length_replicate, List.length_set, List.length_take, List.length_drop, vi_len, vb_len, vo_len, vl_len, vn_len]; omega)) only [↓EC, EV, EL, E2, E3, ER, seval, ↓reduceIte, false_imp_iff])
     exact (frOf_1 (by omega)).symm)

/-- How fractions are compared. -/
def cmpFr (n d m e : Int) : Int := if n = m ∧ d = e then 0 else if d = 0 then 1 else if e = 0 then -1 else if n * e < m * d then -1 else 1
theorem c_spec_l10Compare {n d m e : Int} (h1 : isFr n d = true) (h2 : isFr m e = true) : PSpec Try.prog 53 [.agg [.int .i64 n, .int .i64 d], .agg [.int .i64 m, .int .i64 e]] fun v => v = .int .i64 (cmpFr n d m e) := by
  refine spec_l10Compare_f.f ?_
  simp only [isFr, decide_eq_true_eq] at h1 h2
  have hx := mul_lim (x := n) (y := e) 1000000000 1000000000 (by omega) (by omega)
  have hy := mul_lim (x := m) (y := d) 1000000000 1000000000 (by omega) (by omega)
  simp (disch := first | omega | (simp only [List.length_append, List.length_cons, List.length_nil, List.length_replicate, List.length_set, List.length_take, List.length_drop, vi_len, vb_len, vo_len, vl_len, vn_len]; omega)) only [↓EC, EV, EL, E2, E3, ER, seval, ↓reduceIte, false_imp_iff, spec_l10Compare_F]
  repeat' (refine Split.mk (fun h => ?_) (fun h => ?_) <;> (try simp only [decide_eq_true_eq, decide_eq_false_iff_not, beq_iff_eq, bne_iff_ne, beq_eq_false_iff_ne, bne_eq_false_iff_eq, Bool.not_eq_true', Bool.not_eq_false', Bool.and_eq_true, Bool.or_eq_true, Bool.and_eq_false_iff, Bool.or_eq_false_iff, Int.not_lt, Int.not_le, Bool.false_eq_true, Bool.true_eq_false, false_and, and_false, true_and, and_true, or_false, false_or, or_true, true_or, not_true_eq_false, not_false_eq_true] at h))
  all_goals (simp only [V.int.injEq, true_and]; unfold cmpFr; grind)
theorem c_impl_compareFractions {n d m e : Int} (h1 : isFr n d = true) (h2 : isFr m e = true) : PSpec Try.prog 52 [.agg [.int .i64 n, .int .i64 d], .agg [.int .i64 m, .int .i64 e]] fun v => v = .int .i64 (cmpFr n d m e) := by
  refine impl_compareFractions_f.f ?_
  simp only [isFr, decide_eq_true_eq] at h1 h2
  have hx := mul_lim (x := n) (y := e) 1000000000 1000000000 (by omega) (by omega)
  have hy := mul_lim (x := m) (y := d) 1000000000 1000000000 (by omega) (by omega)
  simp (disch := first | omega | (simp only [List.length_append, List.length_cons, List.length_nil, List.length_replicate, List.length_set, List.length_take, List.length_drop, vi_len, vb_len, vo_len, vl_len, vn_len]; omega)) only [↓EC, EV, EL, E2, E3, ER, seval, ↓reduceIte, false_imp_iff, impl_compareFractions_F]
  repeat' (refine Split.mk (fun h => ?_) (fun h => ?_) <;> (try simp only [decide_eq_true_eq, decide_eq_false_iff_not, beq_iff_eq, bne_iff_ne, beq_eq_false_iff_ne, bne_eq_false_iff_eq, Bool.not_eq_true', Bool.not_eq_false', Bool.and_eq_true, Bool.or_eq_true, Bool.and_eq_false_iff, Bool.or_eq_false_iff, Int.not_lt, Int.not_le, Bool.false_eq_true, Bool.true_eq_false, false_and, and_false, true_and, and_true, or_false, false_or, or_true, true_or, not_true_eq_false, not_false_eq_true] at h))
  all_goals (simp only [V.int.injEq, true_and]; unfold cmpFr; grind)
def cmpV (n d m e : Int) : Int := if isFr n d = true ∧ isFr m e = true then cmpFr n d m e else 0
def cmpC (n d m e : Int) : Int := if isFr n d = true ∧ isFr m e = true then 0 else 1
theorem c_spec_CompareFractions {n d m e : Int} : PSpec Try.prog 14 [.agg [.int .i64 n, .int .i64 d], .agg [.int .i64 m, .int .i64 e]] fun v => v = .tup [.int .i64 (cmpV n d m e), .int .i64 (cmpC n d m e)] := by
  refine spec_CompareFractions_f.f ?_
  simp (disch := first | omega | (simp only [List.length_append, List.length_cons, List.length_nil, List.length_replicate, List.length_set, List.length_take, List.length_drop, vi_len, vb_len, vo_len, vl_len, vn_len]; omega)) only [↓EC, EV, EL, E2, E3, ER, seval, ↓reduceIte, false_imp_iff, spec_CompareFractions_F]
  repeat' first
    | (refine Split.mk (fun h => ?_) (fun h => ?_) <;> (try simp only [decide_eq_true_eq, decide_eq_false_iff_not, beq_iff_eq, bne_iff_ne, beq_eq_false_iff_ne, bne_eq_false_iff_eq, Bool.not_eq_true', Bool.not_eq_false', Bool.and_eq_true, Bool.or_eq_true, Bool.and_eq_false_iff, Bool.or_eq_false_iff, Int.not_lt, Int.not_le, Bool.false_eq_true, Bool.true_eq_false, false_and, and_false, true_and, and_true, or_false, false_or, or_true, true_or, not_true_eq_false, not_false_eq_true] at h))
    | (refine pcd_v (c_spec_l10Is) ?_; (try simp (disch := first | omega | (simp only [List.length_append, List.length_cons, List.length_nil, List.length_replicate, List.length_set, List.length_take, List.length_drop, vi_len, vb_len, vo_len, vl_len, vn_len]; omega)) only [↓EC, EV, EL, E2, E3, ER, seval, ↓reduceIte, false_imp_iff]))
    | (refine pcd_v (c_spec_l10Compare (by assumption) (by assumption)) ?_; (try simp (disch := first | omega | (simp only [List.length_append, List.length_cons, List.length_nil, List.length_replicate, List.length_set, List.length_take, List.length_drop, vi_len, vb_len, vo_len, vl_len, vn_len]; omega)) only [↓EC, EV, EL, E2, E3, ER, seval, ↓reduceIte, false_imp_iff]))
  all_goals (unfold cmpV cmpC; simp_all)
theorem c_impl_CompareFractions {n d m e : Int} : PSpec Try.prog 13 [.agg [.int .i64 n, .int .i64 d], .agg [.int .i64 m, .int .i64 e]] fun v => v = .tup [.int .i64 (cmpV n d m e), .int .i64 (cmpC n d m e)] := by
  refine impl_CompareFractions_f.f ?_
  simp (disch := first | omega | (simp only [List.length_append, List.length_cons, List.length_nil, List.length_replicate, List.length_set, List.length_take, List.length_drop, vi_len, vb_len, vo_len, vl_len, vn_len]; omega)) only [↓EC, EV, EL, E2, E3, ER, seval, ↓reduceIte, false_imp_iff, impl_CompareFractions_F]
  repeat' first
    | (refine Split.mk (fun h => ?_) (fun h => ?_) <;> (try simp only [decide_eq_true_eq, decide_eq_false_iff_not, beq_iff_eq, bne_iff_ne, beq_eq_false_iff_ne, bne_eq_false_iff_eq, Bool.not_eq_true', Bool.not_eq_false', Bool.and_eq_true, Bool.or_eq_true, Bool.and_eq_false_iff, Bool.or_eq_false_iff, Int.not_lt, Int.not_le, Bool.false_eq_true, Bool.true_eq_false, false_and, and_false, true_and, and_true, or_false, false_or, or_true, true_or, not_true_eq_false, not_false_eq_true] at h))
    | (refine pcd_v (c_impl_IsFraction) ?_; (try simp (disch := first | omega | (simp only [List.length_append, List.length_cons, List.length_nil, List.length_replicate, List.length_set, List.length_take, List.length_drop, vi_len, vb_len, vo_len, vl_len, vn_len]; omega)) only [↓EC, EV, EL, E2, E3, ER, seval, ↓reduceIte, false_imp_iff]))
    | (refine pcd_v (c_impl_compareFractions (by assumption) (by assumption)) ?_; (try simp (disch := first | omega | (simp only [List.length_append, List.length_cons, List.length_nil, List.length_replicate, List.length_set, List.length_take, List.length_drop, vi_len, vb_len, vo_len, vl_len, vn_len]; omega)) only [↓EC, EV, EL, E2, E3, ER, seval, ↓reduceIte, false_imp_iff]))
  all_goals (unfold cmpV cmpC; simp_all)
end Go.Proofs.Ytlfpiegadaiafaa.Sep
