/- The value of a move: what spec.l10At computes. -/
import Derived.Test.YtlfpiegadaiafaaC18
namespace Go.Proofs.Ytlfpiegadaiafaa.Sep
open Go.RowKit
set_option linter.unusedVariables false
set_option linter.unusedSimpArgs false
set_option maxRecDepth 20000
set_option maxHeartbeats 2000000

/-! ### Least terms -/
theorem num_rd {U V : Int} (hV : V ≠ 0) : numOf U V = (rd U V).1 ∧ denOf U V = (rd U V).2 := by
  have hg : gOf U V ≠ 0 := gOf_ne (.inr hV)
  have hd : gOf U V ∣ V := by
    have := Int.gcd_dvd_right (a := U) (b := V)
    rw [← gOf_abs] at this
    exact Int.natAbs_dvd.1 this
  have hu : gOf U V ∣ U := by
    have := Int.gcd_dvd_left (a := U) (b := V)
    rw [← gOf_abs] at this
    exact Int.natAbs_dvd.1 this
  have e1 : gOf U V * denOf U V = V := Int.mul_tdiv_cancel' hd
  have e2 : gOf U V * numOf U V = U := Int.mul_tdiv_cancel' hu
  have h0 := denOf_nn (n := U) (d := V)
  have h1 : denOf U V ≠ 0 := by intro h; rw [h] at e1; simp at e1; exact hV e1.symm
  have h2 := gcd_dvd_tdiv (n := U) (d := V) hg gOf_abs
  have h3 : rd U V = (numOf U V, denOf U V) := by
    refine rd_eq hV (by omega) h2 ?_
    calc numOf U V * V = numOf U V * (gOf U V * denOf U V) := by rw [e1]
      _ = (gOf U V * numOf U V) * denOf U V := by ac_rfl
      _ = U * denOf U V := by rw [e2]
  rw [h3]; exact ⟨rfl, rfl⟩

/-! ### Products of two fractions -/
theorem cop_parts {x y : Int} (hy : 0 < y) : cop (x / (Int.gcd x y : Int)) (y / (Int.gcd x y : Int)) := by
  have hg := gcd_pos_r (a := x) (b := y) (by omega)
  have h := gcd_dvd_tdiv (n := x) (d := y) (g := (Int.gcd x y : Int)) (by omega) (by simp)
  rw [Int.tdiv_eq_ediv_of_dvd (Int.gcd_dvd_left _ _), Int.tdiv_eq_ediv_of_dvd (Int.gcd_dvd_right _ _)] at h
  exact h
theorem times_rd {xn xd yn yd : Int} (hx : 0 < xd) (hy : 0 < yd) (cx : cop xn xd) (cy : cop yn yd) :
    rd (xn * yn) (xd * yd) = (xn.tdiv (Int.gcd xn yd : Int) * yn.tdiv (Int.gcd yn xd : Int), xd.tdiv (Int.gcd yn xd : Int) * yd.tdiv (Int.gcd xn yd : Int)) := by
  have ga := gcd_pos_r (a := xn) (b := yd) (by omega)
  have gb := gcd_pos_r (a := yn) (b := xd) (by omega)
  have c1 := cop_parts (x := xn) hy
  have c2 := cop_parts (x := yn) hx
  rw [Int.tdiv_eq_ediv_of_dvd (Int.gcd_dvd_left xn yd), Int.tdiv_eq_ediv_of_dvd (Int.gcd_dvd_left yn xd), Int.tdiv_eq_ediv_of_dvd (Int.gcd_dvd_right yn xd), Int.tdiv_eq_ediv_of_dvd (Int.gcd_dvd_right xn yd)]
  obtain ⟨p, hp⟩ := Int.gcd_dvd_left xn yd
  obtain ⟨q, hq⟩ := Int.gcd_dvd_right xn yd
  obtain ⟨r, hr⟩ := Int.gcd_dvd_left yn xd
  obtain ⟨s, hs⟩ := Int.gcd_dvd_right yn xd
  generalize hA : (Int.gcd xn yd : Int) = a at *
  generalize hB : (Int.gcd yn xd : Int) = b at *
  have e1 : xn / a = p := by rw [hp]; exact Int.mul_ediv_cancel_left _ (by omega)
  have e2 : yd / a = q := by rw [hq]; exact Int.mul_ediv_cancel_left _ (by omega)
  have e3 : yn / b = r := by rw [hr]; exact Int.mul_ediv_cancel_left _ (by omega)
  have e4 : xd / b = s := by rw [hs]; exact Int.mul_ediv_cancel_left _ (by omega)
  rw [e1, e2] at c1
  rw [e3, e4] at c2
  rw [e1, e2, e3, e4]
  have q0 : 0 < q := Int.pos_of_mul_pos_right (a := a) (by rw [← hq]; exact hy) (by omega)
  have s0 : 0 < s := Int.pos_of_mul_pos_right (a := b) (by rw [← hs]; exact hx) (by omega)
  have c3 : cop p s := cop_dvd_l (cop_dvd_r cx ⟨b, by rw [hs]; ac_rfl⟩) ⟨a, by rw [hp]; ac_rfl⟩
  have c4 : cop r q := cop_dvd_l (cop_dvd_r cy ⟨a, by rw [hq]; ac_rfl⟩) ⟨b, by rw [hr]; ac_rfl⟩
  have hxy := Int.mul_pos hx hy
  refine rd_eq (by omega) (Int.mul_pos s0 q0) (cop_mul_l (cop_mul_r c3 c1) (cop_mul_r c2 c4)) ?_
  rw [hp, hq, hr, hs]
  ac_rfl
theorem mul_limN {a b : Int} {A B : Nat} (ha : a.natAbs ≤ A) (hb : b.natAbs ≤ B) : (a * b).natAbs ≤ A * B := by
  rw [Int.natAbs_mul]; exact Nat.mul_le_mul ha hb
theorem c_spec_l10Times {xn xd yn yd : Int} (hx : 0 < xd) (hy : 0 < yd) (cx : cop xn xd) (cy : cop yn yd) (b1 : xn.natAbs ≤ 4000000000) (b2 : xd ≤ 4000000000) (b3 : yn.natAbs ≤ 1000) (b4 : yd ≤ 1000) :
    PSpec Try.prog 87 [.agg [.int .i64 xn, .int .i64 xd], .agg [.int .i64 yn, .int .i64 yd]] fun v => v = .tup [.agg [.int .i64 (rd (xn * yn) (xd * yd)).1, .int .i64 (rd (xn * yn) (xd * yd)).2], .bool (isFr (rd (xn * yn) (xd * yd)).1 (rd (xn * yn) (xd * yd)).2)] := by
  have ga := gcd_pos_r (a := xn) (b := yd) (by omega)
  have gb := gcd_pos_r (a := yn) (b := xd) (by omega)
  have t1 := Int.natAbs_tdiv_le_natAbs xn (Int.gcd xn yd : Int)
  have t2 := Int.natAbs_tdiv_le_natAbs yn (Int.gcd yn xd : Int)
  have t3 := Int.natAbs_tdiv_le_natAbs xd (Int.gcd yn xd : Int)
  have t4 := Int.natAbs_tdiv_le_natAbs yd (Int.gcd xn yd : Int)
  have m1 := mul_limN (a := xn.tdiv (Int.gcd xn yd : Int)) (b := yn.tdiv (Int.gcd yn xd : Int)) (A := 4000000000) (B := 1000) (by omega) (by omega)
  have m2 := mul_limN (a := xd.tdiv (Int.gcd yn xd : Int)) (b := yd.tdiv (Int.gcd xn yd : Int)) (A := 4000000000) (B := 1000) (by omega) (by omega)
  have e := times_rd hx hy cx cy
  refine spec_l10Times_f.f ?_
  simp (disch := first | omega | (simp only [List.length_append, List.length_cons, List.length_nil, List.length_replicate, List.length_set, List.length_take, List.length_drop, vi_len, vb_len, vo_len, vl_len, vn_len]; omega)) only [↓EC, EV, EL, E2, E3, ER, seval, ↓reduceIte, false_imp_iff, spec_l10Times_F]
  (refine pcd_v (c_spec_l10Common (by omega) (by omega)) ?_; (try simp (disch := first | omega | (simp only [List.length_append, List.length_cons, List.length_nil, List.length_replicate, List.length_set, List.length_take, List.length_drop, vi_len, vb_len, vo_len, vl_len, vn_len]; omega)) only [↓EC, EV, EL, E2, E3, ER, seval, ↓reduceIte, false_imp_iff]))
  (refine pcd_v (c_spec_l10Common (by omega) (by omega)) ?_; (try simp (disch := first | omega | (simp only [List.length_append, List.length_cons, List.length_nil, List.length_replicate, List.length_set, List.length_take, List.length_drop, vi_len, vb_len, vo_len, vl_len, vn_len]; omega)) only [↓EC, EV, EL, E2, E3, ER, seval, ↓reduceIte, false_imp_iff]))
  have hxy := Int.mul_pos hx hy
  have z : xn = 0 ∨ yn = 0 → (.tup [.agg [.int .i64 0, .int .i64 1], .bool true] : V) = .tup [.agg [.int .i64 (rd (xn * yn) (xd * yd)).1, .int .i64 (rd (xn * yn) (xd * yd)).2], .bool (isFr (rd (xn * yn) (xd * yd)).1 (rd (xn * yn) (xd * yd)).2)] := by
    intro h
    have : xn * yn = 0 := by rcases h with rfl | rfl <;> simp
    rw [this, rd_zero (by omega)]
    rfl
  repeat' (refine Split.mk (fun h => ?_) (fun h => ?_) <;> (try simp only [decide_eq_true_eq, decide_eq_false_iff_not, beq_iff_eq, bne_iff_ne, beq_eq_false_iff_ne, bne_eq_false_iff_eq, Bool.not_eq_true', Bool.not_eq_false', Bool.and_eq_true, Bool.or_eq_true, Bool.and_eq_false_iff, Bool.or_eq_false_iff, Int.not_lt, Int.not_le, Bool.false_eq_true, Bool.true_eq_false, false_and, and_false, true_and, and_true, or_false, false_or, or_true, true_or, not_true_eq_false, not_false_eq_true] at h))
  · exact z (.inl (by assumption))
  · exact z (.inr (by assumption))
  · (try simp (disch := first | omega | (simp only [List.length_append, List.length_cons, List.length_nil, List.length_replicate, List.length_set, List.length_take, List.length_drop, vi_len, vb_len, vo_len, vl_len, vn_len]; omega)) only [↓EC, EV, EL, E2, E3, ER, seval, ↓reduceIte, false_imp_iff])
    (refine pcd_v (c_spec_l10Is) ?_; (try simp (disch := first | omega | (simp only [List.length_append, List.length_cons, List.length_nil, List.length_replicate, List.length_set, List.length_take, List.length_drop, vi_len, vb_len, vo_len, vl_len, vn_len]; omega)) only [↓EC, EV, EL, E2, E3, ER, seval, ↓reduceIte, false_imp_iff]))
    rw [e]
end Go.Proofs.Ytlfpiegadaiafaa.Sep
