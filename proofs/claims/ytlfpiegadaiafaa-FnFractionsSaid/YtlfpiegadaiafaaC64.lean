/- The value of a move: spec.l10At, and the law of MoveFraction. -/
import Derived.Test.YtlfpiegadaiafaaC60
import Derived.Test.YtlfpiegadaiafaaC63
namespace Go.Proofs.Ytlfpiegadaiafaa.Sep
open Go.RowKit
set_option linter.unusedVariables false
set_option linter.unusedSimpArgs false
set_option maxRecDepth 20000
set_option maxHeartbeats 4000000

theorem isFr_rd {U V : Int} (hV : V ≠ 0) : isFr (rd U V).1 (rd U V).2 = true ↔ (rd U V).1.natAbs ≤ 1000000000 ∧ (rd U V).2 ≤ 1000000000 := by
  obtain ⟨h1, h2, h3⟩ := rd_spec (U := U) hV
  rw [isFr_iff]
  constructor
  · rintro ⟨a, b, c, d, e, f⟩; omega
  · rintro ⟨a, b⟩; exact ⟨by omega, by omega, by omega, by omega, h2, .inl h1⟩
theorem rd_small {f l : Int} (hf : 1 ≤ f ∧ f ≤ 20) (hl : 1 ≤ l ∧ l ≤ 20) : 0 < (rd (f + l) f).2 ∧ (rd (f + l) f).2 ≤ 20 ∧ (rd (f + l) f).1.natAbs ≤ 40 ∧ cop (rd (f + l) f).1 (rd (f + l) f).2 ∧ (rd (f + l) f).1 * f = (f + l) * (rd (f + l) f).2 := by
  obtain ⟨h1, h2, h3⟩ := rd_spec (U := f + l) (V := f) (by omega)
  obtain ⟨h4, h5⟩ := rd_le (U := f + l) (V := f) (by omega)
  exact ⟨h1, by omega, by omega, h2, h3⟩
/-- One of the two factors, before it is raised. -/
theorem times_ratio {x v f s : Int} {yn yd an ad : Int} (hy : 0 < yd) (h1 : yn * f = s * yd) (h2 : an * (v * yd) = x * yn * ad) : an * (v * f) = x * s * ad := by
  refine Int.eq_of_mul_eq_mul_right (a := yd) (by omega) ?_
  calc an * (v * f) * yd = an * (v * yd) * f := by ac_rfl
    _ = x * yn * ad * f := by rw [h2]
    _ = x * ad * (yn * f) := by ac_rfl
    _ = x * ad * (s * yd) := by rw [h1]
    _ = _ := by ac_rfl
theorem c_spec_l10Value {f l u v : Int} (hf : 1 ≤ f ∧ f ≤ 20) (hl : 1 ≤ l ∧ l ≤ 20) (hx : isFr u v = true) :
    PSpec Try.prog 77 [.int .i64 f, .int .i64 l, .agg [.int .i64 u, .int .i64 v]] fun w => w = prdV (mvO 2 f l u v) := by
  have hx' := isFr_iff.1 hx
  refine spec_l10Value_f.f ?_
  simp (disch := first | omega | (simp only [List.length_append, List.length_cons, List.length_nil, List.length_replicate, List.length_set, List.length_take, List.length_drop, vi_len, vb_len, vo_len, vl_len, vn_len]; omega)) only [↓EC, EV, EL, E2, E3, ER, seval, ↓reduceIte, false_imp_iff, spec_l10Value_F]
  (refine Split.mk (fun h => ?_) (fun h => ?_) <;> (try simp only [decide_eq_true_eq, decide_eq_false_iff_not, beq_iff_eq, bne_iff_ne, beq_eq_false_iff_ne, bne_eq_false_iff_eq, Bool.not_eq_true', Bool.not_eq_false', Bool.and_eq_true, Bool.or_eq_true, Bool.and_eq_false_iff, Bool.or_eq_false_iff, Int.not_lt, Int.not_le, Bool.false_eq_true, Bool.true_eq_false, false_and, and_false, true_and, and_true, or_false, false_or, or_true, true_or, not_true_eq_false, not_false_eq_true] at h))
  · subst h
    have hu : u = 1 := by omega
    subst hu
    rfl
  · have hv : 0 < v := by omega
    have hc : cop u v := hx'.2.2.2.2.1
    have hw : cop (v - u) v := cop_sub hc
    have e0 := num_rd (U := v - u) (V := v) (by omega)
    rw [rd_self hv hw] at e0
    have e1 := num_rd (U := f + l) (V := f) (by omega)
    have e2 := num_rd (U := f + l) (V := l) (by omega)
    obtain ⟨y1, y2, y3, y4, y5⟩ := rd_small hf hl
    obtain ⟨z1, z2, z3, z4, z5⟩ := rd_small hl hf
    rw [Int.add_comm l f] at z1 z2 z3 z4 z5
    rw [mvO_2 h]
    obtain ⟨F, rfl⟩ : ∃ F : Nat, f = F := ⟨f.toNat, by omega⟩
    obtain ⟨L, rfl⟩ : ∃ L : Nat, l = L := ⟨l.toNat, by omega⟩
    simp only [Int.toNat_natCast]
    generalize hr1 : rd ((F : Int) + L) F = r1 at *
    generalize hr2 : rd ((F : Int) + L) L = r2 at *
    obtain ⟨pn, pd⟩ := r1
    obtain ⟨qn, qd⟩ := r2
    simp only at *
    have ha := rd_spec (U := u * pn) (V := v * pd) (by have := Int.mul_pos hv y1; omega)
    have hb := rd_spec (U := (v - u) * qn) (V := v * qd) (by have := Int.mul_pos hv z1; omega)
    have ha2 := isFr_rd (U := u * pn) (V := v * pd) (by have := Int.mul_pos hv y1; omega)
    have hb2 := isFr_rd (U := (v - u) * qn) (V := v * qd) (by have := Int.mul_pos hv z1; omega)
    have hal := rd_le (U := u * pn) (V := v * pd) (Int.mul_pos hv y1)
    have hbl := rd_le (U := (v - u) * qn) (V := v * qd) (Int.mul_pos hv z1)
    have m1 : (u * pn).natAbs ≤ u.natAbs * 40 := by rw [Int.natAbs_mul]; exact Nat.mul_le_mul_left _ y3
    have m2 : v * pd ≤ v * 20 := Int.mul_le_mul_of_nonneg_left y2 (by omega)
    have m3 : ((v - u) * qn).natAbs ≤ (v - u).natAbs * 40 := by rw [Int.natAbs_mul]; exact Nat.mul_le_mul_left _ z3
    have m4 : v * qd ≤ v * 20 := Int.mul_le_mul_of_nonneg_left z2 (by omega)
    have big : (25000000 < u.natAbs ∨ 25000000 < (v - u).natAbs ∨ 50000000 < v) → (.tup [.agg [.int .i64 0, .int .i64 0], .bool false] : V) = prdV (okPf (rd (vU F L u v) (vV F L v))) := by
      intro hbig
      have := rd_big (f := F) (l := L) (u := u) (v := v) (by omega) (by omega) hv hc hbig
      have hp := rd_spec (U := vU F L u v) (V := vV F L v) (by have := vV_pos (f := F) (l := L) (v := v) (by omega) (by omega) hv; omega)
      rw [prdV_no (by omega)]
    (refine pcd_v (c_spec_l10Make (by omega) (by unfold lim62; omega) (by unfold lim62; omega)) ?_; (try simp (disch := first | omega | (simp only [List.length_append, List.length_cons, List.length_nil, List.length_replicate, List.length_set, List.length_take, List.length_drop, vi_len, vb_len, vo_len, vl_len, vn_len]; omega)) only [↓EC, EV, EL, E2, E3, ER, seval, ↓reduceIte, false_imp_iff]))
    (refine pcd_v (c_spec_l10Make (by omega) (by unfold lim62; omega) (by unfold lim62; omega)) ?_; (try simp (disch := first | omega | (simp only [List.length_append, List.length_cons, List.length_nil, List.length_replicate, List.length_set, List.length_take, List.length_drop, vi_len, vb_len, vo_len, vl_len, vn_len]; omega)) only [↓EC, EV, EL, E2, E3, ER, seval, ↓reduceIte, false_imp_iff]))
    (refine pcd_v (c_spec_l10Make (by omega) (by unfold lim62; omega) (by unfold lim62; omega)) ?_; (try simp (disch := first | omega | (simp only [List.length_append, List.length_cons, List.length_nil, List.length_replicate, List.length_set, List.length_take, List.length_drop, vi_len, vb_len, vo_len, vl_len, vn_len]; omega)) only [↓EC, EV, EL, E2, E3, ER, seval, ↓reduceIte, false_imp_iff]))
    rw [e0.1, e0.2, e1.1, e1.2, e2.1, e2.2]
    refine pcd_v (c_spec_l10Times hv y1 hc y4 (by omega) (by omega) (by omega) (by omega)) ?_
    generalize hra : rd (u * pn) (v * pd) = ra at *
    obtain ⟨an, ad⟩ := ra
    generalize hrb : rd ((v - u) * qn) (v * qd) = rb at *
    obtain ⟨bn, bd⟩ := rb
    simp only at ha hb ha2 hb2 hal hbl
    (try simp (disch := first | omega | (simp only [List.length_append, List.length_cons, List.length_nil, List.length_replicate, List.length_set, List.length_take, List.length_drop, vi_len, vb_len, vo_len, vl_len, vn_len]; omega)) only [↓EC, EV, EL, E2, E3, ER, seval, ↓reduceIte, false_imp_iff])
    have one : isFr (v - u) v = true ∨ 25000000 < (v - u).natAbs := by
      by_cases hq : (v - u).natAbs ≤ 1000000000
      · left; rw [isFr_iff]; exact ⟨by omega, by omega, by omega, by omega, hw, .inl hv⟩
      · right; omega
    (refine Split.mk (fun h => ?_) (fun h => ?_) <;> (try simp only [decide_eq_true_eq, decide_eq_false_iff_not, beq_iff_eq, bne_iff_ne, beq_eq_false_iff_ne, bne_eq_false_iff_eq, Bool.not_eq_true', Bool.not_eq_false', Bool.and_eq_true, Bool.or_eq_true, Bool.and_eq_false_iff, Bool.or_eq_false_iff, Int.not_lt, Int.not_le, Bool.false_eq_true, Bool.true_eq_false, false_and, and_false, true_and, and_true, or_false, false_or, or_true, true_or, not_true_eq_false, not_false_eq_true] at h))
    · refine big (.inr (.inl ?_))
      rcases one with h' | h'
      · rw [h'] at h; cases h
      · exact h'
    (refine Split.mk (fun h => ?_) (fun h => ?_) <;> (try simp only [decide_eq_true_eq, decide_eq_false_iff_not, beq_iff_eq, bne_iff_ne, beq_eq_false_iff_ne, bne_eq_false_iff_eq, Bool.not_eq_true', Bool.not_eq_false', Bool.and_eq_true, Bool.or_eq_true, Bool.and_eq_false_iff, Bool.or_eq_false_iff, Int.not_lt, Int.not_le, Bool.false_eq_true, Bool.true_eq_false, false_and, and_false, true_and, and_true, or_false, false_or, or_true, true_or, not_true_eq_false, not_false_eq_true] at h))
    · refine big ?_
      have hn : ¬ (an.natAbs ≤ 1000000000 ∧ ad ≤ 1000000000) := fun h' => by rw [ha2.2 h'] at h; cases h
      omega
    have la := ha2.1 (by assumption)
    refine pcd_v (c_spec_l10Times hv z1 hw z4 (by omega) (by omega) (by omega) (by omega)) ?_
    rw [hrb]
    (try simp (disch := first | omega | (simp only [List.length_append, List.length_cons, List.length_nil, List.length_replicate, List.length_set, List.length_take, List.length_drop, vi_len, vb_len, vo_len, vl_len, vn_len]; omega)) only [↓EC, EV, EL, E2, E3, ER, seval, ↓reduceIte, false_imp_iff])
    (refine Split.mk (fun h => ?_) (fun h => ?_) <;> (try simp only [decide_eq_true_eq, decide_eq_false_iff_not, beq_iff_eq, bne_iff_ne, beq_eq_false_iff_ne, bne_eq_false_iff_eq, Bool.not_eq_true', Bool.not_eq_false', Bool.and_eq_true, Bool.or_eq_true, Bool.and_eq_false_iff, Bool.or_eq_false_iff, Int.not_lt, Int.not_le, Bool.false_eq_true, Bool.true_eq_false, false_and, and_false, true_and, and_true, or_false, false_or, or_true, true_or, not_true_eq_false, not_false_eq_true] at h))
    · (try simp (disch := first | omega | (simp only [List.length_append, List.length_cons, List.length_nil, List.length_replicate, List.length_set, List.length_take, List.length_drop, vi_len, vb_len, vo_len, vl_len, vn_len]; omega)) only [↓EC, EV, EL, E2, E3, ER, seval, ↓reduceIte, false_imp_iff])
      refine big ?_
      have hn : ¬ (bn.natAbs ≤ 1000000000 ∧ bd ≤ 1000000000) := fun h' => by rw [hb2.2 h'] at h; cases h
      omega
    have lb := hb2.1 (by assumption)
    (try simp (disch := first | omega | (simp only [List.length_append, List.length_cons, List.length_nil, List.length_replicate, List.length_set, List.length_take, List.length_drop, vi_len, vb_len, vo_len, vl_len, vn_len]; omega)) only [↓EC, EV, EL, E2, E3, ER, seval, ↓reduceIte, false_imp_iff])
    refine pcd_v (c_spec_l10Product (m := F) (n := L) (by omega) (by omega) la.1 ⟨ha.1, la.2⟩ lb.1 ⟨hb.1, lb.2⟩) ?_
    rw [rd_pows (f := F) (l := L) (u := u) (v := v) (by omega) (by omega) hv ha.1 hb.1 (times_ratio y1 y5 ha.2.2) (times_ratio z1 z5 hb.2.2)]
    rcases frV_cases (okPf (rd (vU F L u v) (vV F L v))) with ⟨a, b, ho⟩ | ho <;> rw [ho] <;> (try simp (disch := first | omega | (simp only [List.length_append, List.length_cons, List.length_nil, List.length_replicate, List.length_set, List.length_take, List.length_drop, vi_len, vb_len, vo_len, vl_len, vn_len]; omega)) only [↓EC, EV, EL, E2, E3, ER, seval, ↓reduceIte, false_imp_iff, prdV])

/-! ### The value of a move -/
def atR (o : Option (Int × Int)) (v : V) : Prop := (∃ a b, o = some (a, b) ∧ v = .tup [.agg [.int .i64 a, .int .i64 b], .bool true]) ∨ o = none ∧ ∃ a b, v = .tup [.agg [.int .i64 a, .int .i64 b], .bool false]
theorem atR_rd {U V : Int} (hV : V ≠ 0) : atR (okPf (rd U V)) (.tup [.agg [.int .i64 (rd U V).1, .int .i64 (rd U V).2], .bool (isFr (rd U V).1 (rd U V).2)]) := by
  have h := isFr_rd (U := U) hV
  unfold okPf
  by_cases hq : (rd U V).1.natAbs ≤ 1000000000 ∧ (rd U V).2 ≤ 1000000000
  · rw [if_pos hq, h.2 hq]
    exact .inl ⟨_, _, rfl, rfl⟩
  · rw [if_neg hq]
    have : isFr (rd U V).1 (rd U V).2 = false := by
      cases hh : isFr (rd U V).1 (rd U V).2 with
      | false => rfl
      | true => exact absurd (h.1 hh) hq
    rw [this]
    exact .inr ⟨rfl, _, _, rfl⟩
theorem c_spec_l10At {k f l n d : Int} (hm : isMoveB k f l = true) (hx : isFr n d = true) :
    PSpec Try.prog 57 [.agg [.int .i64 k, .int .i64 f, .int .i64 l], .agg [.int .i64 n, .int .i64 d]] fun v => atR (mvO k f l n d) v := by
  have hm' : k = 2 ∧ 1 ≤ f ∧ f ≤ 20 ∧ 1 ≤ l ∧ l ≤ 20 ∨ (k = 0 ∨ k = 1) ∧ f = 0 ∧ l = 0 := by simpa [isMoveB] using hm
  have hx' := isFr_iff.1 hx
  refine spec_l10At_f.f ?_
  rcases hm' with ⟨rfl, f1, f2, l1, l2⟩ | ⟨rfl | rfl, rfl, rfl⟩
  · simp (disch := first | omega | (simp only [List.length_append, List.length_cons, List.length_nil, List.length_replicate, List.length_set, List.length_take, List.length_drop, vi_len, vb_len, vo_len, vl_len, vn_len]; omega)) only [↓EC, EV, EL, E2, E3, ER, seval, ↓reduceIte, false_imp_iff, spec_l10At_F]
    refine pcd_v (c_spec_l10Value ⟨f1, f2⟩ ⟨l1, l2⟩ hx) ?_
    rcases frV_cases (mvO 2 f l n d) with ⟨a, b, ho⟩ | ho
    · rw [ho]
      (try simp (disch := first | omega | (simp only [List.length_append, List.length_cons, List.length_nil, List.length_replicate, List.length_set, List.length_take, List.length_drop, vi_len, vb_len, vo_len, vl_len, vn_len]; omega)) only [↓EC, EV, EL, E2, E3, ER, seval, ↓reduceIte, false_imp_iff, prdV])
      exact .inl ⟨_, _, rfl, rfl⟩
    · rw [ho]
      (try simp (disch := first | omega | (simp only [List.length_append, List.length_cons, List.length_nil, List.length_replicate, List.length_set, List.length_take, List.length_drop, vi_len, vb_len, vo_len, vl_len, vn_len]; omega)) only [↓EC, EV, EL, E2, E3, ER, seval, ↓reduceIte, false_imp_iff, prdV])
      exact .inr ⟨rfl, _, _, rfl⟩
  · simp (disch := first | omega | (simp only [List.length_append, List.length_cons, List.length_nil, List.length_replicate, List.length_set, List.length_take, List.length_drop, vi_len, vb_len, vo_len, vl_len, vn_len]; omega)) only [↓EC, EV, EL, E2, E3, ER, seval, ↓reduceIte, false_imp_iff, spec_l10At_F]
    (refine Split.mk (fun h => ?_) (fun h => ?_) <;> (try simp only [decide_eq_true_eq, decide_eq_false_iff_not, beq_iff_eq, bne_iff_ne, beq_eq_false_iff_ne, bne_eq_false_iff_eq, Bool.not_eq_true', Bool.not_eq_false', Bool.and_eq_true, Bool.or_eq_true, Bool.and_eq_false_iff, Bool.or_eq_false_iff, Int.not_lt, Int.not_le, Bool.false_eq_true, Bool.true_eq_false, false_and, and_false, true_and, and_true, or_false, false_or, or_true, true_or, not_true_eq_false, not_false_eq_true] at h))
    · have hn : n = 1 := by omega
      subst hn; subst h
      exact .inl ⟨_, _, rfl, rfl⟩
    · (try simp (disch := first | omega | (simp only [List.length_append, List.length_cons, List.length_nil, List.length_replicate, List.length_set, List.length_take, List.length_drop, vi_len, vb_len, vo_len, vl_len, vn_len]; omega)) only [↓EC, EV, EL, E2, E3, ER, seval, ↓reduceIte, false_imp_iff])
      (refine pcd_v (c_spec_l10Make (by omega) (by unfold lim62; omega) (by unfold lim62; omega)) ?_; (try simp (disch := first | omega | (simp only [List.length_append, List.length_cons, List.length_nil, List.length_replicate, List.length_set, List.length_take, List.length_drop, vi_len, vb_len, vo_len, vl_len, vn_len]; omega)) only [↓EC, EV, EL, E2, E3, ER, seval, ↓reduceIte, false_imp_iff]))
      have e := num_rd (U := d - n) (V := d) h
      rw [e.1, e.2, mvO_0 h]
      exact atR_rd h
  · simp (disch := first | omega | (simp only [List.length_append, List.length_cons, List.length_nil, List.length_replicate, List.length_set, List.length_take, List.length_drop, vi_len, vb_len, vo_len, vl_len, vn_len]; omega)) only [↓EC, EV, EL, E2, E3, ER, seval, ↓reduceIte, false_imp_iff, spec_l10At_F]
    (refine pcd_v (c_spec_l10Make (by omega) (by unfold lim62; omega) (by unfold lim62; omega)) ?_; (try simp (disch := first | omega | (simp only [List.length_append, List.length_cons, List.length_nil, List.length_replicate, List.length_set, List.length_take, List.length_drop, vi_len, vb_len, vo_len, vl_len, vn_len]; omega)) only [↓EC, EV, EL, E2, E3, ER, seval, ↓reduceIte, false_imp_iff]))
    by_cases hd : d = 0
    · have hn : n = 1 := by omega
      subst hn; subst hd
      exact .inl ⟨0, 1, rfl, by rw [show numOf 0 1 = 0 by decide, show denOf 0 1 = 1 by decide, show isFr 0 1 = true by decide]⟩
    · by_cases hn : n = 0
      · subst hn
        have hd1 : d = 1 := by
          have := hx'.2.2.2.2.1
          simp only [Int.zero_gcd] at this
          omega
        subst hd1
        exact .inl ⟨1, 0, rfl, by rw [show numOf 1 0 = 1 by decide, show denOf 1 0 = 0 by decide, show isFr 1 0 = true by decide]⟩
      · have e := num_rd (U := d) (V := n) hn
        rw [e.1, e.2, mvO_1 hd hn]
        exact atR_rd hn

/-! ### MoveFraction -/
def mfV (k f l n d : Int) : V := if isMoveB k f l = true ∧ isFr n d = true then frV (mvO k f l n d) else .tup [.agg [.int .i64 0, .int .i64 0], .int .i64 1]
theorem c_impl_MoveFraction {k f l n d : Int} : PSpec Try.prog 16 [.agg [.int .i64 k, .int .i64 f, .int .i64 l], .agg [.int .i64 n, .int .i64 d]] fun v => v = mfV k f l n d := by
  refine impl_MoveFraction_f.f ?_
  simp (disch := first | omega | (simp only [List.length_append, List.length_cons, List.length_nil, List.length_replicate, List.length_set, List.length_take, List.length_drop, vi_len, vb_len, vo_len, vl_len, vn_len]; omega)) only [↓EC, EV, EL, E2, E3, ER, seval, ↓reduceIte, false_imp_iff, impl_MoveFraction_F]
  (refine pcd_v (c_impl_IsMove) ?_; (try simp (disch := first | omega | (simp only [List.length_append, List.length_cons, List.length_nil, List.length_replicate, List.length_set, List.length_take, List.length_drop, vi_len, vb_len, vo_len, vl_len, vn_len]; omega)) only [↓EC, EV, EL, E2, E3, ER, seval, ↓reduceIte, false_imp_iff]))
  (refine Split.mk (fun h => ?_) (fun h => ?_) <;> (try simp only [decide_eq_true_eq, decide_eq_false_iff_not, beq_iff_eq, bne_iff_ne, beq_eq_false_iff_ne, bne_eq_false_iff_eq, Bool.not_eq_true', Bool.not_eq_false', Bool.and_eq_true, Bool.or_eq_true, Bool.and_eq_false_iff, Bool.or_eq_false_iff, Int.not_lt, Int.not_le, Bool.false_eq_true, Bool.true_eq_false, false_and, and_false, true_and, and_true, or_false, false_or, or_true, true_or, not_true_eq_false, not_false_eq_true] at h))
  · unfold mfV; rw [if_neg (by simp_all)]
  · (try simp (disch := first | omega | (simp only [List.length_append, List.length_cons, List.length_nil, List.length_replicate, List.length_set, List.length_take, List.length_drop, vi_len, vb_len, vo_len, vl_len, vn_len]; omega)) only [↓EC, EV, EL, E2, E3, ER, seval, ↓reduceIte, false_imp_iff])
    (refine pcd_v (c_impl_IsFraction) ?_; (try simp (disch := first | omega | (simp only [List.length_append, List.length_cons, List.length_nil, List.length_replicate, List.length_set, List.length_take, List.length_drop, vi_len, vb_len, vo_len, vl_len, vn_len]; omega)) only [↓EC, EV, EL, E2, E3, ER, seval, ↓reduceIte, false_imp_iff]))
    (refine Split.mk (fun h => ?_) (fun h => ?_) <;> (try simp only [decide_eq_true_eq, decide_eq_false_iff_not, beq_iff_eq, bne_iff_ne, beq_eq_false_iff_ne, bne_eq_false_iff_eq, Bool.not_eq_true', Bool.not_eq_false', Bool.and_eq_true, Bool.or_eq_true, Bool.and_eq_false_iff, Bool.or_eq_false_iff, Int.not_lt, Int.not_le, Bool.false_eq_true, Bool.true_eq_false, false_and, and_false, true_and, and_true, or_false, false_or, or_true, true_or, not_true_eq_false, not_false_eq_true] at h))
    · unfold mfV; rw [if_neg (by simp_all)]
    · (try simp (disch := first | omega | (simp only [List.length_append, List.length_cons, List.length_nil, List.length_replicate, List.length_set, List.length_take, List.length_drop, vi_len, vb_len, vo_len, vl_len, vn_len]; omega)) only [↓EC, EV, EL, E2, E3, ER, seval, ↓reduceIte, false_imp_iff])
      have hm : isMoveB k f l = true := by assumption
      have hx : isFr n d = true := by assumption
      refine pcd_v (c_impl_move hm hx) ?_
      unfold mfV
      rw [if_pos ⟨hm, hx⟩]
      rcases frV_cases (mvO k f l n d) with ⟨a, b, ho⟩ | ho <;> rw [ho] <;> (try simp (disch := first | omega | (simp only [List.length_append, List.length_cons, List.length_nil, List.length_replicate, List.length_set, List.length_take, List.length_drop, vi_len, vb_len, vo_len, vl_len, vn_len]; omega)) only [↓EC, EV, EL, E2, E3, ER, seval, ↓reduceIte, false_imp_iff, frV])
theorem c_spec_MoveFraction {k f l n d : Int} : PSpec Try.prog 17 [.agg [.int .i64 k, .int .i64 f, .int .i64 l], .agg [.int .i64 n, .int .i64 d]] fun v => v = mfV k f l n d := by
  refine spec_MoveFraction_f.f ?_
  simp (disch := first | omega | (simp only [List.length_append, List.length_cons, List.length_nil, List.length_replicate, List.length_set, List.length_take, List.length_drop, vi_len, vb_len, vo_len, vl_len, vn_len]; omega)) only [↓EC, EV, EL, E2, E3, ER, seval, ↓reduceIte, false_imp_iff, spec_MoveFraction_F]
  (refine pcd_v (c_spec_l10Move) ?_; (try simp (disch := first | omega | (simp only [List.length_append, List.length_cons, List.length_nil, List.length_replicate, List.length_set, List.length_take, List.length_drop, vi_len, vb_len, vo_len, vl_len, vn_len]; omega)) only [↓EC, EV, EL, E2, E3, ER, seval, ↓reduceIte, false_imp_iff]))
  (refine Split.mk (fun h => ?_) (fun h => ?_) <;> (try simp only [decide_eq_true_eq, decide_eq_false_iff_not, beq_iff_eq, bne_iff_ne, beq_eq_false_iff_ne, bne_eq_false_iff_eq, Bool.not_eq_true', Bool.not_eq_false', Bool.and_eq_true, Bool.or_eq_true, Bool.and_eq_false_iff, Bool.or_eq_false_iff, Int.not_lt, Int.not_le, Bool.false_eq_true, Bool.true_eq_false, false_and, and_false, true_and, and_true, or_false, false_or, or_true, true_or, not_true_eq_false, not_false_eq_true] at h))
  · unfold mfV; rw [if_neg (by simp_all)]
  · (try simp (disch := first | omega | (simp only [List.length_append, List.length_cons, List.length_nil, List.length_replicate, List.length_set, List.length_take, List.length_drop, vi_len, vb_len, vo_len, vl_len, vn_len]; omega)) only [↓EC, EV, EL, E2, E3, ER, seval, ↓reduceIte, false_imp_iff])
    (refine pcd_v (c_spec_l10Is) ?_; (try simp (disch := first | omega | (simp only [List.length_append, List.length_cons, List.length_nil, List.length_replicate, List.length_set, List.length_take, List.length_drop, vi_len, vb_len, vo_len, vl_len, vn_len]; omega)) only [↓EC, EV, EL, E2, E3, ER, seval, ↓reduceIte, false_imp_iff]))
    (refine Split.mk (fun h => ?_) (fun h => ?_) <;> (try simp only [decide_eq_true_eq, decide_eq_false_iff_not, beq_iff_eq, bne_iff_ne, beq_eq_false_iff_ne, bne_eq_false_iff_eq, Bool.not_eq_true', Bool.not_eq_false', Bool.and_eq_true, Bool.or_eq_true, Bool.and_eq_false_iff, Bool.or_eq_false_iff, Int.not_lt, Int.not_le, Bool.false_eq_true, Bool.true_eq_false, false_and, and_false, true_and, and_true, or_false, false_or, or_true, true_or, not_true_eq_false, not_false_eq_true] at h))
    · unfold mfV; rw [if_neg (by simp_all)]
    · (try simp (disch := first | omega | (simp only [List.length_append, List.length_cons, List.length_nil, List.length_replicate, List.length_set, List.length_take, List.length_drop, vi_len, vb_len, vo_len, vl_len, vn_len]; omega)) only [↓EC, EV, EL, E2, E3, ER, seval, ↓reduceIte, false_imp_iff])
      have hm : isMoveB k f l = true := by assumption
      have hx : isFr n d = true := by assumption
      refine pcd_r (c_spec_l10At hm hx) ?_
      unfold mfV
      rw [if_pos ⟨hm, hx⟩]
      rintro v (⟨a, b, ho, rfl⟩ | ⟨ho, a, b, rfl⟩) <;> rw [ho] <;> (try simp (disch := first | omega | (simp only [List.length_append, List.length_cons, List.length_nil, List.length_replicate, List.length_set, List.length_take, List.length_drop, vi_len, vb_len, vo_len, vl_len, vn_len]; omega)) only [↓EC, EV, EL, E2, E3, ER, seval, ↓reduceIte, false_imp_iff, frV])
end Go.Proofs.Ytlfpiegadaiafaa.Sep
