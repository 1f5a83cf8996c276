/- The walk through spec.l10Product. -/
import Derived.Test.YtlfpiegadaiafaaC62
namespace Go.Proofs.Ytlfpiegadaiafaa.Sep
open Go.RowKit
set_option linter.unusedVariables false
set_option linter.unusedSimpArgs false
set_option maxRecDepth 20000
set_option maxHeartbeats 4000000

def prdV : Option (Int × Int) → V
  | some p => .tup [.agg [.int .i64 p.1, .int .i64 p.2], .bool true]
  | none => .tup [.agg [.int .i64 0, .int .i64 0], .bool false]
theorem prdV_ok {p : Int × Int} (h : p.1.natAbs ≤ 1000000000 ∧ p.2 ≤ 1000000000) : prdV (okPf p) = .tup [.agg [.int .i64 p.1, .int .i64 p.2], .bool true] := by
  unfold okPf; rw [if_pos h]; rfl
theorem prdV_no {p : Int × Int} (h : ¬ (p.1.natAbs ≤ 1000000000 ∧ p.2 ≤ 1000000000)) : prdV (okPf p) = .tup [.agg [.int .i64 0, .int .i64 0], .bool false] := by
  unfold okPf; rw [if_neg h]; rfl
/-- The numbers and the sign after 'i' of four. -/
def sgL (an ad bn bd : Int) (i : Nat) : List Int := [if 0 < i then (an.natAbs : Int) else an, ad, if 2 < i then (bn.natAbs : Int) else bn, bd]
def sgA (an : Int) (m : Nat) : Int := if an < 0 ∧ m % 2 ≠ 0 then -1 else 1
def sgS (an bn : Int) (m n : Nat) (i : Nat) : Int := (if 0 < i then sgA an m else 1) * (if 2 < i then sgA bn n else 1)
theorem pow_sg {a : Int} {m : Nat} (h : a ≠ 0) : a ^ m = sgA a m * (a.natAbs : Int) ^ m := by
  unfold sgA
  by_cases hn : a < 0
  · have e : a = -(a.natAbs : Int) := by omega
    conv => lhs; rw [e]
    generalize (a.natAbs : Int) = x
    rw [Int.neg_pow]
    rcases Nat.mod_two_eq_zero_or_one m with h2 | h2
    · rw [if_neg (by omega), h2]; simp
    · rw [if_pos (by omega), h2]; simp
  · rw [if_neg (by omega)]
    have e : a = (a.natAbs : Int) := by omega
    conv => lhs; rw [e]
    simp
theorem sgA_abs {a : Int} {m : Nat} : sgA a m = 1 ∨ sgA a m = -1 := by unfold sgA; split <;> simp
theorem sgL_len {an ad bn bd : Int} {i : Nat} : (sgL an ad bn bd i).length = 4 := rfl
theorem pw_len {m n : Nat} : (pw m n).length = 4 := rfl
theorem pow_mono {on p : Int} {k t : Nat} (h0 : 0 < on) (hp : 2 ≤ p) (hk : k < t) : on * p ^ k * p ≤ on * p ^ t := by
  obtain ⟨r, rfl⟩ : ∃ r, t = k + 1 + r := ⟨t - (k + 1), by omega⟩
  rw [Int.pow_add, Int.pow_succ]
  have h1 : 0 < p ^ r := Int.pow_pos (by omega)
  have h2 : 0 ≤ on * p ^ k * p := Int.mul_nonneg (Int.mul_nonneg (by omega) (Int.le_of_lt (Int.pow_pos (by omega)))) (by omega)
  calc on * p ^ k * p = on * p ^ k * p * 1 := by simp
    _ ≤ on * p ^ k * p * p ^ r := Int.mul_le_mul_of_nonneg_left (by omega) h2
    _ = _ := by ac_rfl
theorem c_spec_l10Product {an ad bn bd : Int} {m n : Nat} (hm : 1 ≤ m ∧ m ≤ 20) (hn : 1 ≤ n ∧ n ≤ 20) (a1 : an.natAbs ≤ 1000000000) (a2 : 0 < ad ∧ ad ≤ 1000000000) (b1 : bn.natAbs ≤ 1000000000) (b2 : 0 < bd ∧ bd ≤ 1000000000) :
    PSpec Try.prog 88 [.agg [.int .i64 an, .int .i64 ad], .int .i64 m, .agg [.int .i64 bn, .int .i64 bd], .int .i64 n] fun v => v = prdV (okPf (rd (an ^ m * bn ^ n) (ad ^ m * bd ^ n))) := by
  have hV : 0 < ad ^ m * bd ^ n := Int.mul_pos (Int.pow_pos a2.1) (Int.pow_pos b2.1)
  have z : an = 0 ∨ bn = 0 → (.tup [.agg [.int .i64 0, .int .i64 1], .bool true] : V) = prdV (okPf (rd (an ^ m * bn ^ n) (ad ^ m * bd ^ n))) := by
    intro h
    have : an ^ m * bn ^ n = 0 := by rcases h with rfl | rfl <;> rw [Int.zero_pow (by omega)] <;> simp
    rw [this, rd_zero (by omega)]
    rfl
  have w0 : (pw m n).length = 4 := rfl
  have pw0 : gi (pw m n) 0 = m := rfl
  have pw2 : gi (pw m n) 2 = n := rfl
  have tm : (m : Int).tmod 2 = ((m % 2 : Nat) : Int) := by rw [Int.tmod_eq_emod_of_nonneg (by omega)]; omega
  have tn : (n : Int).tmod 2 = ((n % 2 : Nat) : Int) := by rw [Int.tmod_eq_emod_of_nonneg (by omega)]; omega
  refine spec_l10Product_f.f ?_
  simp (disch := first | omega | (simp only [List.length_append, List.length_cons, List.length_nil, List.length_replicate, List.length_set, List.length_take, List.length_drop, vi_len, vb_len, vo_len, vl_len, vn_len]; omega)) only [↓EC, EV, EL, E2, E3, ER, seval, ↓reduceIte, false_imp_iff, spec_l10Product_F]
  (refine Split.mk (fun h => ?_) (fun h => ?_) <;> (try simp only [decide_eq_true_eq, decide_eq_false_iff_not, beq_iff_eq, bne_iff_ne, beq_eq_false_iff_ne, bne_eq_false_iff_eq, Bool.not_eq_true', Bool.not_eq_false', Bool.and_eq_true, Bool.or_eq_true, Bool.and_eq_false_iff, Bool.or_eq_false_iff, Int.not_lt, Int.not_le, Bool.false_eq_true, Bool.true_eq_false, false_and, and_false, true_and, and_true, or_false, false_or, or_true, true_or, not_true_eq_false, not_false_eq_true] at h))
  · exact z (.inl h)
  (refine Split.mk (fun h => ?_) (fun h => ?_) <;> (try simp only [decide_eq_true_eq, decide_eq_false_iff_not, beq_iff_eq, bne_iff_ne, beq_eq_false_iff_ne, bne_eq_false_iff_eq, Bool.not_eq_true', Bool.not_eq_false', Bool.and_eq_true, Bool.or_eq_true, Bool.and_eq_false_iff, Bool.or_eq_false_iff, Int.not_lt, Int.not_le, Bool.false_eq_true, Bool.true_eq_false, false_and, and_false, true_and, and_true, or_false, false_or, or_true, true_or, not_true_eq_false, not_false_eq_true] at h))
  · exact z (.inr h)
  have an0 : an ≠ 0 := by assumption
  have bn0 : bn ≠ 0 := by assumption
  -- the value
  obtain ⟨r1, r2, r3⟩ := rd_spec (U := an ^ m * bn ^ n) (V := ad ^ m * bd ^ n) (by omega)
  generalize hr : rd (an ^ m * bn ^ n) (ad ^ m * bd ^ n) = r at *
  obtain ⟨N, D⟩ := r
  simp only at r1 r2 r3
  have hS : sgS an bn m n 4 = 1 ∨ sgS an bn m n 4 = -1 := by
    unfold sgS
    simp only [show 0 < 4 by omega, show 2 < 4 by omega, if_true]
    rcases sgA_abs (a := an) (m := m) with h1 | h1 <;> rcases sgA_abs (a := bn) (m := n) with h2 | h2 <;> rw [h1, h2] <;> simp
  have hU : an ^ m * bn ^ n = sgS an bn m n 4 * ((an.natAbs : Int) ^ m * (bn.natAbs : Int) ^ n) := by
    rw [pow_sg an0, pow_sg bn0]
    simp only [sgS, show 0 < 4 by omega, show 2 < 4 by omega, if_true]
    ac_rfl
  have pA0 : 0 < (an.natAbs : Int) ^ m * (bn.natAbs : Int) ^ n := Int.mul_pos (Int.pow_pos (by omega)) (Int.pow_pos (by omega))
  generalize hSg : sgS an bn m n 4 = S at *
  have hN : N = S * N.natAbs := by
    rw [hU] at r3
    rcases hS with rfl | rfl
    · have : 0 < N := by
        have : 0 < N * (ad ^ m * bd ^ n) := by rw [r3]; exact Int.mul_pos (by simpa using pA0) r1
        exact Int.pos_of_mul_pos_left this hV
      omega
    · have : 0 < -N := by
        have : 0 < -N * (ad ^ m * bd ^ n) := by rw [Int.neg_mul, r3]; simp only [Int.neg_mul, Int.one_mul, Int.neg_neg]; exact Int.mul_pos pA0 r1
        exact Int.pos_of_mul_pos_left this hV
      omega
  have hN0 : 0 < (N.natAbs : Int) := by
    have : N ≠ 0 := by
      rintro rfl
      rw [hU] at r3
      simp only [Int.zero_mul] at r3
      have := Int.mul_pos pA0 r1
      rcases hS with rfl | rfl
      · rw [Int.one_mul] at r3; omega
      · rw [Int.mul_assoc] at r3; omega
    omega
  have cN : cop (N.natAbs : Int) D := by
    have : Int.gcd N D = 1 := r2
    simpa [cop, Int.gcd] using this
  have rN : (N.natAbs : Int) * (ad ^ m * bd ^ n) = D * ((an.natAbs : Int) ^ m * (bn.natAbs : Int) ^ n) := by
    rw [hU] at r3
    rcases hS with rfl | rfl
    · have : (N.natAbs : Int) = N := by omega
      rw [this, r3, Int.one_mul, Int.mul_comm]
    · have : (N.natAbs : Int) = -N := by omega
      rw [this, Int.neg_mul, r3, Int.neg_mul, Int.one_mul, Int.neg_mul, Int.neg_neg, Int.mul_comm]
  have hfail : ¬ (N.natAbs ≤ 1000000000 ∧ D ≤ 1000000000) → (.tup [.agg [.int .i64 0, .int .i64 0], .bool false] : V) = prdV (okPf (N, D)) := fun h => (prdV_no (p := (N, D)) h).symm
  (try simp (disch := first | omega | (simp only [List.length_append, List.length_cons, List.length_nil, List.length_replicate, List.length_set, List.length_take, List.length_drop, vi_len, vb_len, vo_len, vl_len, vn_len]; omega)) only [↓EC, EV, EL, E2, E3, ER, seval, ↓reduceIte, false_imp_iff])
  refine LP_of (σ := Nat) 100000 [(68, 27, 1), (70, 27, 1), (72, 27, 1), (74, 27, 1), (100, 2, 1), (107, 2, 1)]
    (fun s => [.int .i64 (sgS an bn m n s), .int .i64 s]) (fun s => [[.int .i64 an, .int .i64 ad], [.int .i64 bn, .int .i64 bd], [.int .i64 0, .int .i64 0], [.int .i64 (1), .int .i64 (1)], vi .i64 (sgL an ad bn bd s), vi .i64 (pw m n)])
    (fun s => s ≤ 4) (fun s => 4 - s) 0 (by simp [frameOk, names, lpz, sclp, scv, scvs, vi_nrf, vb_nrf, vt_nrf, v2_nrf, v3_nrf, nrfs, nrf, sc_vi, sc_vb, sc_vt, sc_v2, sc_v3, sc_vo, sc_vl, vo_nrf, vl_nrf, sc_vn, vn_nrf]) (by omega) ?_ ?_
  · simp (disch := first | omega | (simp only [List.length_append, List.length_cons, List.length_nil, List.length_replicate, List.length_set, List.length_take, List.length_drop, vi_len, vb_len, vo_len, vl_len, vn_len]; omega)) only [↓EC, EV, EL, E2, E3, ER, seval, ↓reduceIte, false_imp_iff, ColV_def]
    exact ⟨rfl, rfl⟩
  · rintro i hi
    have i5 : i = 0 ∨ i = 1 ∨ i = 2 ∨ i = 3 ∨ i = 4 := by omega
    rcases i5 with rfl | rfl | rfl | rfl | rfl
    · have l0 : (sgL an ad bn bd 0).length = 4 := rfl
      have l1 : gi (sgL an ad bn bd 0) 0 = an := rfl
      have s0 : sgS an bn m n 0 = 1 := rfl
      have s1 : sgS an bn m n 1 = if an < 0 ∧ m % 2 ≠ 0 then -1 else 1 := by simp [sgS, sgA]
      simp (disch := first | omega | (simp only [List.length_append, List.length_cons, List.length_nil, List.length_replicate, List.length_set, List.length_take, List.length_drop, vi_len, vb_len, vo_len, vl_len, vn_len]; omega)) only [↓EC, EV, EL, E2, E3, ER, seval, ↓reduceIte, false_imp_iff, ColV_def, lheap_def, l0, l1, w0, s0, pw0, tm]
      repeat' (refine Split.mk (fun h => ?_) (fun h => ?_) <;> (try simp only [decide_eq_true_eq, decide_eq_false_iff_not, beq_iff_eq, bne_iff_ne, beq_eq_false_iff_ne, bne_eq_false_iff_eq, Bool.not_eq_true', Bool.not_eq_false', Bool.and_eq_true, Bool.or_eq_true, Bool.and_eq_false_iff, Bool.or_eq_false_iff, Int.not_lt, Int.not_le, Bool.false_eq_true, Bool.true_eq_false, false_and, and_false, true_and, and_true, or_false, false_or, or_true, true_or, not_true_eq_false, not_false_eq_true] at h))
      · refine ⟨1, by rw [s1, if_pos (by omega)]; rfl, by simp [sgL, vi]; omega, by omega, by omega⟩
      · refine ⟨1, by rw [s1, if_neg (by omega)]; rfl, by simp [sgL, vi]; omega, by omega, by omega⟩
      · refine ⟨1, by rw [s1, if_neg (by omega)]; rfl, by simp [sgL, vi]; omega, by omega, by omega⟩
    · have l0 : (sgL an ad bn bd 1).length = 4 := rfl
      have l1 : gi (sgL an ad bn bd 1) 1 = ad := rfl
      simp (disch := first | omega | (simp only [List.length_append, List.length_cons, List.length_nil, List.length_replicate, List.length_set, List.length_take, List.length_drop, vi_len, vb_len, vo_len, vl_len, vn_len]; omega)) only [↓EC, EV, EL, E2, E3, ER, seval, ↓reduceIte, false_imp_iff, ColV_def, lheap_def, l0, l1, w0]
      repeat' (refine Split.mk (fun h => ?_) (fun h => ?_) <;> (try simp only [decide_eq_true_eq, decide_eq_false_iff_not, beq_iff_eq, bne_iff_ne, beq_eq_false_iff_ne, bne_eq_false_iff_eq, Bool.not_eq_true', Bool.not_eq_false', Bool.and_eq_true, Bool.or_eq_true, Bool.and_eq_false_iff, Bool.or_eq_false_iff, Int.not_lt, Int.not_le, Bool.false_eq_true, Bool.true_eq_false, false_and, and_false, true_and, and_true, or_false, false_or, or_true, true_or, not_true_eq_false, not_false_eq_true] at h))
      all_goals first | omega | skip
      refine ⟨2, rfl, rfl, by omega, by omega⟩
    · have l0 : (sgL an ad bn bd 2).length = 4 := rfl
      have l1 : gi (sgL an ad bn bd 2) 2 = bn := rfl
      have s0 : sgS an bn m n 2 = sgA an m := by simp [sgS]
      have s1 : sgS an bn m n 3 = sgA an m * (if bn < 0 ∧ n % 2 ≠ 0 then -1 else 1) := by simp [sgS]; simp [sgA]
      have s2 := sgA_abs (a := an) (m := m)
      simp (disch := first | omega | (simp only [List.length_append, List.length_cons, List.length_nil, List.length_replicate, List.length_set, List.length_take, List.length_drop, vi_len, vb_len, vo_len, vl_len, vn_len]; omega)) only [↓EC, EV, EL, E2, E3, ER, seval, ↓reduceIte, false_imp_iff, ColV_def, lheap_def, l0, l1, w0, s0, pw2, tn]
      repeat' (refine Split.mk (fun h => ?_) (fun h => ?_) <;> (try simp only [decide_eq_true_eq, decide_eq_false_iff_not, beq_iff_eq, bne_iff_ne, beq_eq_false_iff_ne, bne_eq_false_iff_eq, Bool.not_eq_true', Bool.not_eq_false', Bool.and_eq_true, Bool.or_eq_true, Bool.and_eq_false_iff, Bool.or_eq_false_iff, Int.not_lt, Int.not_le, Bool.false_eq_true, Bool.true_eq_false, false_and, and_false, true_and, and_true, or_false, false_or, or_true, true_or, not_true_eq_false, not_false_eq_true] at h))
      · refine ⟨3, by rw [s1, if_pos (by omega), Int.mul_neg, Int.mul_one]; rfl, by simp [sgL, vi]; omega, by omega, by omega⟩
      · refine ⟨3, by rw [s1, if_neg (by omega), Int.mul_one]; rfl, by simp [sgL, vi]; omega, by omega, by omega⟩
      · refine ⟨3, by rw [s1, if_neg (by omega), Int.mul_one]; rfl, by simp [sgL, vi]; omega, by omega, by omega⟩
    · have l0 : (sgL an ad bn bd 3).length = 4 := rfl
      have l1 : gi (sgL an ad bn bd 3) 3 = bd := rfl
      simp (disch := first | omega | (simp only [List.length_append, List.length_cons, List.length_nil, List.length_replicate, List.length_set, List.length_take, List.length_drop, vi_len, vb_len, vo_len, vl_len, vn_len]; omega)) only [↓EC, EV, EL, E2, E3, ER, seval, ↓reduceIte, false_imp_iff, ColV_def, lheap_def, l0, l1, w0]
      repeat' (refine Split.mk (fun h => ?_) (fun h => ?_) <;> (try simp only [decide_eq_true_eq, decide_eq_false_iff_not, beq_iff_eq, bne_iff_ne, beq_eq_false_iff_ne, bne_eq_false_iff_eq, Bool.not_eq_true', Bool.not_eq_false', Bool.and_eq_true, Bool.or_eq_true, Bool.and_eq_false_iff, Bool.or_eq_false_iff, Int.not_lt, Int.not_le, Bool.false_eq_true, Bool.true_eq_false, false_and, and_false, true_and, and_true, or_false, false_or, or_true, true_or, not_true_eq_false, not_false_eq_true] at h))
      all_goals first | omega | skip
      refine ⟨4, rfl, rfl, by omega, by omega⟩
    · simp (disch := first | omega | (simp only [List.length_append, List.length_cons, List.length_nil, List.length_replicate, List.length_set, List.length_take, List.length_drop, vi_len, vb_len, vo_len, vl_len, vn_len]; omega)) only [↓EC, EV, EL, E2, E3, ER, seval, ↓reduceIte, false_imp_iff, ColV_def, lheap_def, sgL_len, hSg]
      refine LP_of (σ := List Int × Int × Int) 200000 [(68, 27, 1), (70, 27, 1), (72, 27, 1), (74, 27, 1), (100, 2, 1), (107, 2, 1)]
        (fun s => []) (fun s => [[.int .i64 an, .int .i64 ad], [.int .i64 bn, .int .i64 bd], [.int .i64 0, .int .i64 0], [.int .i64 (s.2.1), .int .i64 (s.2.2)], vi .i64 (s.1), vi .i64 (pw m n)])
        (fun s => s.1.length = 4 ∧ one9 s.1 ∧ Pri (N.natAbs : Int) D s.2.1 s.2.2 (pA m n s.1) (pB m n s.1) ∧ s.2.1 ≤ 1000000000 ∧ s.2.2 ≤ 1000000000) (fun s => (sum4 s.1).toNat) (sgL an ad bn bd 4, 1, 1) (by simp [frameOk, names, lpz, sclp, scv, scvs, vi_nrf, vb_nrf, vt_nrf, v2_nrf, v3_nrf, nrfs, nrf, sc_vi, sc_vb, sc_vt, sc_v2, sc_v3, sc_vo, sc_vl, vo_nrf, vl_nrf, sc_vn, vn_nrf]) ?_ ?_ ?_
      · refine ⟨rfl, ?_, ?_, by simp, by simp⟩
        · intro j hj
          have j4 : j = 0 ∨ j = 1 ∨ j = 2 ∨ j = 3 := by simp only [sgL_len] at hj; omega
          rcases j4 with rfl | rfl | rfl | rfl <;> simp [sgL, gi] <;> omega
        · have e1 : pA m n (sgL an ad bn bd 4) = (an.natAbs : Int) ^ m * (bn.natAbs : Int) ^ n := rfl
          have e2 : pB m n (sgL an ad bn bd 4) = ad ^ m * bd ^ n := rfl
          rw [e1, e2]
          exact ⟨by simp, by simp, pA0, hV, by simp only [Int.one_mul]; exact rN, cop_one_l, cop_one_l, cop_one_l⟩
      · simp (disch := first | omega | (simp only [List.length_append, List.length_cons, List.length_nil, List.length_replicate, List.length_set, List.length_take, List.length_drop, vi_len, vb_len, vo_len, vl_len, vn_len]; omega)) only [↓EC, EV, EL, E2, E3, ER, seval, ↓reduceIte, false_imp_iff, ColV_def]
      · rintro ⟨l, on, od⟩ ⟨h1, h2, h3, h4, h5⟩
        simp only at h1 h2 h3 h4 h5
        simp (disch := first | omega | (simp only [List.length_append, List.length_cons, List.length_nil, List.length_replicate, List.length_set, List.length_take, List.length_drop, vi_len, vb_len, vo_len, vl_len, vn_len]; omega)) only [↓EC, EV, EL, E2, E3, ER, seval, ↓reduceIte, false_imp_iff, ColV_def, lheap_def]
        refine pcd_r (c_spec_l10Prime h1 h2) ?_
        rintro _ ⟨p, rfl, hp⟩
        have hon := h3.on0
        have hod := h3.od0
        have hSon : -1000000000 ≤ on * S ∧ on * S ≤ 1000000000 := by rcases hS with rfl | rfl <;> omega
        (try simp (disch := first | omega | (simp only [List.length_append, List.length_cons, List.length_nil, List.length_replicate, List.length_set, List.length_take, List.length_drop, vi_len, vb_len, vo_len, vl_len, vn_len]; omega)) only [↓EC, EV, EL, E2, E3, ER, seval, ↓reduceIte, false_imp_iff])
        (refine Split.mk (fun h => ?_) (fun h => ?_) <;> (try simp only [decide_eq_true_eq, decide_eq_false_iff_not, beq_iff_eq, bne_iff_ne, beq_eq_false_iff_ne, bne_eq_false_iff_eq, Bool.not_eq_true', Bool.not_eq_false', Bool.and_eq_true, Bool.or_eq_true, Bool.and_eq_false_iff, Bool.or_eq_false_iff, Int.not_lt, Int.not_le, Bool.false_eq_true, Bool.true_eq_false, false_and, and_false, true_and, and_true, or_false, false_or, or_true, true_or, not_true_eq_false, not_false_eq_true] at h))
        · subst h
          have hone : ∀ j, j < 4 → gi l j = 1 := by
            rcases hp with ⟨_, h⟩ | ⟨h, _⟩
            · exact h
            · have := h.1; omega
          have e1 : pA m n l = 1 := by simp [pA, hone 0, hone 2, Int.one_pow]
          have e2 : pB m n l = 1 := by simp [pB, hone 1, hone 3, Int.one_pow]
          rw [e1, e2] at h3
          obtain ⟨q1, q2⟩ := Pri_end r1 cN h3
          (try simp (disch := first | omega | (simp only [List.length_append, List.length_cons, List.length_nil, List.length_replicate, List.length_set, List.length_take, List.length_drop, vi_len, vb_len, vo_len, vl_len, vn_len]; omega)) only [↓EC, EV, EL, E2, E3, ER, seval, ↓reduceIte, false_imp_iff])
          rw [prdV_ok (p := (N, D)) (by simp only; omega)]
          subst q1; subst q2
          rw [Int.mul_comm, ← hN]
        · obtain ⟨pp, ppl, pj⟩ : isP p ∧ p ≤ 1000000000 ∧ ∃ j, j < 4 ∧ p ∣ gi l j := by
            rcases hp with ⟨h', _⟩ | h'
            · exact absurd h' h
            · exact h'
          have p2 := pp.1
          (try simp (disch := first | omega | (simp only [List.length_append, List.length_cons, List.length_nil, List.length_replicate, List.length_set, List.length_take, List.length_drop, vi_len, vb_len, vo_len, vl_len, vn_len]; omega)) only [↓EC, EV, EL, E2, E3, ER, seval, ↓reduceIte, false_imp_iff])
          refine LP_of (σ := Nat × List Int × Int) 300000 [(68, 27, 1), (70, 27, 1), (72, 27, 1), (74, 27, 1), (100, 2, 1), (107, 2, 1)]
            (fun s => [.int .i64 s.2.2, .int .i64 s.1]) (fun s => [[.int .i64 an, .int .i64 ad], [.int .i64 bn, .int .i64 bd], [.int .i64 0, .int .i64 0], [.int .i64 (on), .int .i64 (od)], vi .i64 (s.2.1), vi .i64 (pw m n)])
            (fun s => s.1 ≤ 4 ∧ Ph m n p l s.2.1 s.2.2 ∧ ∀ j, j < s.1 → ¬ p ∣ gi s.2.1 j) (fun s => 4 - s.1) (0, l, 0) (by simp [frameOk, names, lpz, sclp, scv, scvs, vi_nrf, vb_nrf, vt_nrf, v2_nrf, v3_nrf, nrfs, nrf, sc_vi, sc_vb, sc_vt, sc_v2, sc_v3, sc_vo, sc_vl, vo_nrf, vl_nrf, sc_vn, vn_nrf]) ⟨by simp, Ph_start h1 h2, fun j hj => absurd hj (Nat.not_lt_zero j)⟩ ?_ ?_
          · simp (disch := first | omega | (simp only [List.length_append, List.length_cons, List.length_nil, List.length_replicate, List.length_set, List.length_take, List.length_drop, vi_len, vb_len, vo_len, vl_len, vn_len]; omega)) only [↓EC, EV, EL, E2, E3, ER, seval, ↓reduceIte, false_imp_iff, ColV_def]
          · rintro ⟨i, l', t⟩ ⟨g1, g2, g3⟩
            simp only at g1 g2 g3
            have gl := g2.len
            have gtb := g2.tb
            simp (disch := first | omega | (simp only [List.length_append, List.length_cons, List.length_nil, List.length_replicate, List.length_set, List.length_take, List.length_drop, vi_len, vb_len, vo_len, vl_len, vn_len]; omega)) only [↓EC, EV, EL, E2, E3, ER, seval, ↓reduceIte, false_imp_iff, ColV_def, lheap_def, gl]
            (refine Split.mk (fun h => ?_) (fun h => ?_) <;> (try simp only [decide_eq_true_eq, decide_eq_false_iff_not, beq_iff_eq, bne_iff_ne, beq_eq_false_iff_ne, bne_eq_false_iff_eq, Bool.not_eq_true', Bool.not_eq_false', Bool.and_eq_true, Bool.or_eq_true, Bool.and_eq_false_iff, Bool.or_eq_false_iff, Int.not_lt, Int.not_le, Bool.false_eq_true, Bool.true_eq_false, false_and, and_false, true_and, and_true, or_false, false_or, or_true, true_or, not_true_eq_false, not_false_eq_true] at h))
            · (try simp (disch := first | omega | (simp only [List.length_append, List.length_cons, List.length_nil, List.length_replicate, List.length_set, List.length_take, List.length_drop, vi_len, vb_len, vo_len, vl_len, vn_len]; omega)) only [↓EC, EV, EL, E2, E3, ER, seval, ↓reduceIte, false_imp_iff])
              refine LP_of (σ := List Int × Int) 400000 [(68, 27, 1), (70, 27, 1), (72, 27, 1), (74, 27, 1), (100, 2, 1), (107, 2, 1)]
                (fun s => [.int .i64 s.2]) (fun s => [[.int .i64 an, .int .i64 ad], [.int .i64 bn, .int .i64 bd], [.int .i64 0, .int .i64 0], [.int .i64 (on), .int .i64 (od)], vi .i64 (s.1), vi .i64 (pw m n)])
                (fun s => Ph m n p l s.1 s.2 ∧ ∀ j, j < i → ¬ p ∣ gi s.1 j) (fun s => (sum4 s.1).toNat) (l', t) (by simp [frameOk, names, lpz, sclp, scv, scvs, vi_nrf, vb_nrf, vt_nrf, v2_nrf, v3_nrf, nrfs, nrf, sc_vi, sc_vb, sc_vt, sc_v2, sc_v3, sc_vo, sc_vl, vo_nrf, vl_nrf, sc_vn, vn_nrf]) ⟨g2, g3⟩ ?_ ?_
              · simp (disch := first | omega | (simp only [List.length_append, List.length_cons, List.length_nil, List.length_replicate, List.length_set, List.length_take, List.length_drop, vi_len, vb_len, vo_len, vl_len, vn_len]; omega)) only [↓EC, EV, EL, E2, E3, ER, seval, ↓reduceIte, false_imp_iff, ColV_def]
              · rintro ⟨l', t⟩ ⟨g2, g3⟩
                simp only at g2 g3
                have gl := g2.len
                have gtb := g2.tb
                have g0 := g2.pos i (by omega)
                have hs4 : 0 < sum4 l' := by
                  have := g2.pos 0 (by omega); have := g2.pos 1 (by omega); have := g2.pos 2 (by omega); have := g2.pos 3 (by omega)
                  unfold sum4; omega
                have hpwb : -20 ≤ gi (pw m n) i ∧ gi (pw m n) i ≤ 20 := by
                  have i4 : i = 0 ∨ i = 1 ∨ i = 2 ∨ i = 3 := by omega
                  rcases i4 with rfl | rfl | rfl | rfl <;> simp [pw, gi] <;> omega
                have hq := Int.natAbs_tdiv_le_natAbs (gi l' i) p
                simp (disch := first | omega | (simp only [List.length_append, List.length_cons, List.length_nil, List.length_replicate, List.length_set, List.length_take, List.length_drop, vi_len, vb_len, vo_len, vl_len, vn_len]; omega)) only [↓EC, EV, EL, E2, E3, ER, seval, ↓reduceIte, false_imp_iff, ColV_def, lheap_def, gl, w0]
                (refine Split.mk (fun h => ?_) (fun h => ?_) <;> (try simp only [decide_eq_true_eq, decide_eq_false_iff_not, beq_iff_eq, bne_iff_ne, beq_eq_false_iff_ne, bne_eq_false_iff_eq, Bool.not_eq_true', Bool.not_eq_false', Bool.and_eq_true, Bool.or_eq_true, Bool.and_eq_false_iff, Bool.or_eq_false_iff, Int.not_lt, Int.not_le, Bool.false_eq_true, Bool.true_eq_false, false_and, and_false, true_and, and_true, or_false, false_or, or_true, true_or, not_true_eq_false, not_false_eq_true] at h))
                · have hd : p ∣ gi l' i := tmod_dvd.1 h
                  obtain ⟨k1, k2⟩ := Ph_step hm hn g2 p2 (by omega) hd
                  (try simp (disch := first | omega | (simp only [List.length_append, List.length_cons, List.length_nil, List.length_replicate, List.length_set, List.length_take, List.length_drop, vi_len, vb_len, vo_len, vl_len, vn_len]; omega)) only [↓EC, EV, EL, E2, E3, ER, seval, ↓reduceIte, false_imp_iff, gl, w0])
                  refine ⟨(_, _), rfl, rfl, ⟨k1, fun j hj => ?_⟩, by simp only; omega⟩
                  simp only
                  rw [gi_set, if_neg (by omega)]
                  exact g3 j hj
                · have hd : ¬ p ∣ gi l' i := fun h' => h (tmod_dvd.2 h')
                  (try simp (disch := first | omega | (simp only [List.length_append, List.length_cons, List.length_nil, List.length_replicate, List.length_set, List.length_take, List.length_drop, vi_len, vb_len, vo_len, vl_len, vn_len]; omega)) only [↓EC, EV, EL, E2, E3, ER, seval, ↓reduceIte, false_imp_iff, gl, w0])
                  refine ⟨(i + 1, l', t), by simp, rfl, ⟨by simp only; omega, g2, fun j hj => ?_⟩, by simp only; omega⟩
                  by_cases e : j = i
                  · subst e; exact hd
                  · exact g3 j (by simp only at hj; omega)
            · have hi4 : i = 4 := by omega
              subst hi4
              have hR := Ph_round pp h3 g2 g3
              have hlt := sum4_lt g2.le pj g3
              have hNle := Pri_le (by omega) hR
              have hDle := Pri_le r1 hR.swap
              have hs4 : 0 < sum4 l' := by
                have := g2.pos 0 (by omega); have := g2.pos 1 (by omega); have := g2.pos 2 (by omega); have := g2.pos 3 (by omega)
                unfold sum4; omega
              have htb : -80000000000 ≤ t ∧ t ≤ 80000000000 := by omega
              (try simp (disch := first | omega | (simp only [List.length_append, List.length_cons, List.length_nil, List.length_replicate, List.length_set, List.length_take, List.length_drop, vi_len, vb_len, vo_len, vl_len, vn_len]; omega)) only [↓EC, EV, EL, E2, E3, ER, seval, ↓reduceIte, false_imp_iff])
              refine LP_of (σ := Nat) 400000 [(68, 27, 1), (70, 27, 1), (72, 27, 1), (74, 27, 1), (100, 2, 1), (107, 2, 1)]
                (fun k => [.int .i64 (t - k)]) (fun k => [[.int .i64 an, .int .i64 ad], [.int .i64 bn, .int .i64 bd], [.int .i64 0, .int .i64 0], [.int .i64 (on * p ^ k), .int .i64 (od)], vi .i64 (l'), vi .i64 (pw m n)])
                (fun k => k ≤ t.toNat ∧ on * p ^ k ≤ 1000000000) (fun k => t.toNat - k) 0 (by simp [frameOk, names, lpz, sclp, scv, scvs, vi_nrf, vb_nrf, vt_nrf, v2_nrf, v3_nrf, nrfs, nrf, sc_vi, sc_vb, sc_vt, sc_v2, sc_v3, sc_vo, sc_vl, vo_nrf, vl_nrf, sc_vn, vn_nrf]) ⟨by omega, by simpa using h4⟩ ?_ ?_
              · simp (disch := first | omega | (simp only [List.length_append, List.length_cons, List.length_nil, List.length_replicate, List.length_set, List.length_take, List.length_drop, vi_len, vb_len, vo_len, vl_len, vn_len]; omega)) only [↓EC, EV, EL, E2, E3, ER, seval, ↓reduceIte, false_imp_iff, ColV_def]
                simp
              · rintro k ⟨k1, k2⟩
                have hk0 : 0 < on * p ^ k := Int.mul_pos hon (Int.pow_pos (by omega))
                have hkm := mul_limN (a := on * p ^ k) (b := p) (A := 1000000000) (B := 1000000000) (by omega) (by omega)
                have hkn : 0 < on * p ^ k * p := Int.mul_pos hk0 (by omega)
                simp (disch := first | omega | (simp only [List.length_append, List.length_cons, List.length_nil, List.length_replicate, List.length_set, List.length_take, List.length_drop, vi_len, vb_len, vo_len, vl_len, vn_len]; omega)) only [↓EC, EV, EL, E2, E3, ER, seval, ↓reduceIte, false_imp_iff, ColV_def, lheap_def]
                (refine Split.mk (fun h => ?_) (fun h => ?_) <;> (try simp only [decide_eq_true_eq, decide_eq_false_iff_not, beq_iff_eq, bne_iff_ne, beq_eq_false_iff_ne, bne_eq_false_iff_eq, Bool.not_eq_true', Bool.not_eq_false', Bool.and_eq_true, Bool.or_eq_true, Bool.and_eq_false_iff, Bool.or_eq_false_iff, Int.not_lt, Int.not_le, Bool.false_eq_true, Bool.true_eq_false, false_and, and_false, true_and, and_true, or_false, false_or, or_true, true_or, not_true_eq_false, not_false_eq_true] at h))
                · have hkt : k < t.toNat := by omega
                  have hmo := pow_mono hon p2 hkt
                  (try simp (disch := first | omega | (simp only [List.length_append, List.length_cons, List.length_nil, List.length_replicate, List.length_set, List.length_take, List.length_drop, vi_len, vb_len, vo_len, vl_len, vn_len]; omega)) only [↓EC, EV, EL, E2, E3, ER, seval, ↓reduceIte, false_imp_iff])
                  (refine Split.mk (fun h => ?_) (fun h => ?_) <;> (try simp only [decide_eq_true_eq, decide_eq_false_iff_not, beq_iff_eq, bne_iff_ne, beq_eq_false_iff_ne, bne_eq_false_iff_eq, Bool.not_eq_true', Bool.not_eq_false', Bool.and_eq_true, Bool.or_eq_true, Bool.and_eq_false_iff, Bool.or_eq_false_iff, Int.not_lt, Int.not_le, Bool.false_eq_true, Bool.true_eq_false, false_and, and_false, true_and, and_true, or_false, false_or, or_true, true_or, not_true_eq_false, not_false_eq_true] at h))
                  · (try simp (disch := first | omega | (simp only [List.length_append, List.length_cons, List.length_nil, List.length_replicate, List.length_set, List.length_take, List.length_drop, vi_len, vb_len, vo_len, vl_len, vn_len]; omega)) only [↓EC, EV, EL, E2, E3, ER, seval, ↓reduceIte, false_imp_iff])
                    exact hfail (by omega)
                  · (try simp (disch := first | omega | (simp only [List.length_append, List.length_cons, List.length_nil, List.length_replicate, List.length_set, List.length_take, List.length_drop, vi_len, vb_len, vo_len, vl_len, vn_len]; omega)) only [↓EC, EV, EL, E2, E3, ER, seval, ↓reduceIte, false_imp_iff])
                    exact ⟨k + 1, by simp; omega, by simp [Int.pow_succ, Int.mul_assoc], ⟨by omega, by rw [Int.pow_succ, ← Int.mul_assoc]; omega⟩, by omega⟩
                · have hkt : k = t.toNat := by omega
                  subst hkt
                  (try simp (disch := first | omega | (simp only [List.length_append, List.length_cons, List.length_nil, List.length_replicate, List.length_set, List.length_take, List.length_drop, vi_len, vb_len, vo_len, vl_len, vn_len]; omega)) only [↓EC, EV, EL, E2, E3, ER, seval, ↓reduceIte, false_imp_iff])
                  refine LP_of (σ := Nat) 500000 [(68, 27, 1), (70, 27, 1), (72, 27, 1), (74, 27, 1), (100, 2, 1), (107, 2, 1)]
                    (fun k => [.int .i64 (t - t.toNat + k)]) (fun k => [[.int .i64 an, .int .i64 ad], [.int .i64 bn, .int .i64 bd], [.int .i64 0, .int .i64 0], [.int .i64 (on * p ^ t.toNat), .int .i64 (od * p ^ k)], vi .i64 (l'), vi .i64 (pw m n)])
                    (fun k => k ≤ (-t).toNat ∧ od * p ^ k ≤ 1000000000) (fun k => (-t).toNat - k) 0 (by simp [frameOk, names, lpz, sclp, scv, scvs, vi_nrf, vb_nrf, vt_nrf, v2_nrf, v3_nrf, nrfs, nrf, sc_vi, sc_vb, sc_vt, sc_v2, sc_v3, sc_vo, sc_vl, vo_nrf, vl_nrf, sc_vn, vn_nrf]) ⟨by omega, by simpa using h5⟩ ?_ ?_
                  · simp (disch := first | omega | (simp only [List.length_append, List.length_cons, List.length_nil, List.length_replicate, List.length_set, List.length_take, List.length_drop, vi_len, vb_len, vo_len, vl_len, vn_len]; omega)) only [↓EC, EV, EL, E2, E3, ER, seval, ↓reduceIte, false_imp_iff, ColV_def]
                    simp
                  · rintro k ⟨k1, k3⟩
                    have hk0 : 0 < od * p ^ k := Int.mul_pos hod (Int.pow_pos (by omega))
                    have hkm := mul_limN (a := od * p ^ k) (b := p) (A := 1000000000) (B := 1000000000) (by omega) (by omega)
                    have hkn : 0 < od * p ^ k * p := Int.mul_pos hk0 (by omega)
                    simp (disch := first | omega | (simp only [List.length_append, List.length_cons, List.length_nil, List.length_replicate, List.length_set, List.length_take, List.length_drop, vi_len, vb_len, vo_len, vl_len, vn_len]; omega)) only [↓EC, EV, EL, E2, E3, ER, seval, ↓reduceIte, false_imp_iff, ColV_def, lheap_def]
                    (refine Split.mk (fun h => ?_) (fun h => ?_) <;> (try simp only [decide_eq_true_eq, decide_eq_false_iff_not, beq_iff_eq, bne_iff_ne, beq_eq_false_iff_ne, bne_eq_false_iff_eq, Bool.not_eq_true', Bool.not_eq_false', Bool.and_eq_true, Bool.or_eq_true, Bool.and_eq_false_iff, Bool.or_eq_false_iff, Int.not_lt, Int.not_le, Bool.false_eq_true, Bool.true_eq_false, false_and, and_false, true_and, and_true, or_false, false_or, or_true, true_or, not_true_eq_false, not_false_eq_true] at h))
                    · have hkt : k < (-t).toNat := by omega
                      have hmo := pow_mono hod p2 hkt
                      (try simp (disch := first | omega | (simp only [List.length_append, List.length_cons, List.length_nil, List.length_replicate, List.length_set, List.length_take, List.length_drop, vi_len, vb_len, vo_len, vl_len, vn_len]; omega)) only [↓EC, EV, EL, E2, E3, ER, seval, ↓reduceIte, false_imp_iff])
                      (refine Split.mk (fun h => ?_) (fun h => ?_) <;> (try simp only [decide_eq_true_eq, decide_eq_false_iff_not, beq_iff_eq, bne_iff_ne, beq_eq_false_iff_ne, bne_eq_false_iff_eq, Bool.not_eq_true', Bool.not_eq_false', Bool.and_eq_true, Bool.or_eq_true, Bool.and_eq_false_iff, Bool.or_eq_false_iff, Int.not_lt, Int.not_le, Bool.false_eq_true, Bool.true_eq_false, false_and, and_false, true_and, and_true, or_false, false_or, or_true, true_or, not_true_eq_false, not_false_eq_true] at h))
                      · (try simp (disch := first | omega | (simp only [List.length_append, List.length_cons, List.length_nil, List.length_replicate, List.length_set, List.length_take, List.length_drop, vi_len, vb_len, vo_len, vl_len, vn_len]; omega)) only [↓EC, EV, EL, E2, E3, ER, seval, ↓reduceIte, false_imp_iff])
                        exact hfail (by omega)
                      · (try simp (disch := first | omega | (simp only [List.length_append, List.length_cons, List.length_nil, List.length_replicate, List.length_set, List.length_take, List.length_drop, vi_len, vb_len, vo_len, vl_len, vn_len]; omega)) only [↓EC, EV, EL, E2, E3, ER, seval, ↓reduceIte, false_imp_iff])
                        exact ⟨k + 1, by simp; omega, by simp [Int.pow_succ, Int.mul_assoc], ⟨by omega, by rw [Int.pow_succ, ← Int.mul_assoc]; omega⟩, by omega⟩
                    · have hkt : k = (-t).toNat := by omega
                      subst hkt
                      (try simp (disch := first | omega | (simp only [List.length_append, List.length_cons, List.length_nil, List.length_replicate, List.length_set, List.length_take, List.length_drop, vi_len, vb_len, vo_len, vl_len, vn_len]; omega)) only [↓EC, EV, EL, E2, E3, ER, seval, ↓reduceIte, false_imp_iff])
                      exact ⟨(l', on * p ^ t.toNat, od * p ^ (-t).toNat), rfl, ⟨gl, g2.pos, hR, k2, k3⟩, by simp only; omega⟩
end Go.Proofs.Ytlfpiegadaiafaa.Sep
