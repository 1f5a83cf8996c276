/- Products of powers, prime by prime: spec.l10Product. -/
import Derived.Test.YtlfpiegadaiafaaC61
namespace Go.Proofs.Ytlfpiegadaiafaa.Sep
open Go.RowKit
set_option linter.unusedVariables false
set_option linter.unusedSimpArgs false
set_option maxRecDepth 20000
set_option maxHeartbeats 4000000

/-! ### A prime divisor -/
def one9 (l : List Int) : Prop := ∀ j, j < l.length → 0 < gi l j ∧ gi l j ≤ 1000000000
theorem tmod_dvd {a b : Int} : a.tmod b = 0 ↔ b ∣ a := ⟨Int.dvd_of_tmod_eq_zero, Int.tmod_eq_zero_of_dvd⟩
def prR (l : List Int) (p : Int) : Prop := p = 0 ∧ (∀ j, j < 4 → gi l j = 1) ∨ isP p ∧ p ≤ 1000000000 ∧ ∃ j, j < 4 ∧ p ∣ gi l j
theorem c_spec_l10Prime {l : List Int} (h4 : l.length = 4) (hl : one9 l) : PSpec Try.prog 95 [.sl 4 (vi .i64 l)] fun v => ∃ p : Int, v = .int .i64 p ∧ prR l p := by
  refine spec_l10Prime_f.f ?_
  simp (disch := first | omega | (simp only [List.length_append, List.length_cons, List.length_nil, List.length_replicate, List.length_set, List.length_take, List.length_drop, vi_len, vb_len, vo_len, vl_len, vn_len]; omega)) only [↓EC, EV, EL, E2, E3, ER, seval, ↓reduceIte, false_imp_iff, spec_l10Prime_F]
  refine LP_of (σ := Nat) 100000 [] (fun s => [.int .i64 s]) (fun s => [])
    (fun s => s ≤ 4 ∧ ∀ j, j < s → gi l j = 1) (fun s => 4 - s) 0 (by simp [frameOk, names, lpz, sclp, scv, scvs, vi_nrf, vb_nrf, vt_nrf, v2_nrf, v3_nrf, nrfs, nrf, sc_vi, sc_vb, sc_vt, sc_v2, sc_v3, sc_vo, sc_vl, vo_nrf, vl_nrf, sc_vn, vn_nrf]) ⟨by omega, fun j hj => absurd hj (Nat.not_lt_zero j)⟩ ?_ ?_
  · simp (disch := first | omega | (simp only [List.length_append, List.length_cons, List.length_nil, List.length_replicate, List.length_set, List.length_take, List.length_drop, vi_len, vb_len, vo_len, vl_len, vn_len]; omega)) only [↓EC, EV, EL, E2, E3, ER, seval, ↓reduceIte, false_imp_iff, ColV_def]
  · rintro i ⟨h1, h2⟩
    simp (disch := first | omega | (simp only [List.length_append, List.length_cons, List.length_nil, List.length_replicate, List.length_set, List.length_take, List.length_drop, vi_len, vb_len, vo_len, vl_len, vn_len]; omega)) only [↓EC, EV, EL, E2, E3, ER, seval, ↓reduceIte, false_imp_iff, ColV_def, lheap_def]
    (refine Split.mk (fun h => ?_) (fun h => ?_) <;> (try simp only [decide_eq_true_eq, decide_eq_false_iff_not, beq_iff_eq, bne_iff_ne, beq_eq_false_iff_ne, bne_eq_false_iff_eq, Bool.not_eq_true', Bool.not_eq_false', Bool.and_eq_true, Bool.or_eq_true, Bool.and_eq_false_iff, Bool.or_eq_false_iff, Int.not_lt, Int.not_le, Bool.false_eq_true, Bool.true_eq_false, false_and, and_false, true_and, and_true, or_false, false_or, or_true, true_or, not_true_eq_false, not_false_eq_true] at h))
    · obtain ⟨g1, g2⟩ := hl i (by omega)
      (try simp (disch := first | omega | (simp only [List.length_append, List.length_cons, List.length_nil, List.length_replicate, List.length_set, List.length_take, List.length_drop, vi_len, vb_len, vo_len, vl_len, vn_len]; omega)) only [↓EC, EV, EL, E2, E3, ER, seval, ↓reduceIte, false_imp_iff])
      (refine Split.mk (fun h => ?_) (fun h => ?_) <;> (try simp only [decide_eq_true_eq, decide_eq_false_iff_not, beq_iff_eq, bne_iff_ne, beq_eq_false_iff_ne, bne_eq_false_iff_eq, Bool.not_eq_true', Bool.not_eq_false', Bool.and_eq_true, Bool.or_eq_true, Bool.and_eq_false_iff, Bool.or_eq_false_iff, Int.not_lt, Int.not_le, Bool.false_eq_true, Bool.true_eq_false, false_and, and_false, true_and, and_true, or_false, false_or, or_true, true_or, not_true_eq_false, not_false_eq_true] at h))
      · (try simp (disch := first | omega | (simp only [List.length_append, List.length_cons, List.length_nil, List.length_replicate, List.length_set, List.length_take, List.length_drop, vi_len, vb_len, vo_len, vl_len, vn_len]; omega)) only [↓EC, EV, EL, E2, E3, ER, seval, ↓reduceIte, false_imp_iff])
        refine ⟨i + 1, by simp, ⟨by omega, fun j hj => ?_⟩, by omega⟩
        by_cases e : j = i
        · subst e; assumption
        · exact h2 j (by omega)
      · (try simp (disch := first | omega | (simp only [List.length_append, List.length_cons, List.length_nil, List.length_replicate, List.length_set, List.length_take, List.length_drop, vi_len, vb_len, vo_len, vl_len, vn_len]; omega)) only [↓EC, EV, EL, E2, E3, ER, seval, ↓reduceIte, false_imp_iff])
        refine LP_of (σ := Nat) 200000 [] (fun s => [.int .i64 s]) (fun s => [])
          (fun s => 2 ≤ s ∧ s ≤ 40000 ∧ ∀ d : Int, 2 ≤ d → d < s → ¬ d ∣ gi l i) (fun s => 40000 - s) 2 (by simp [frameOk, names, lpz, sclp, scv, scvs, vi_nrf, vb_nrf, vt_nrf, v2_nrf, v3_nrf, nrfs, nrf, sc_vi, sc_vb, sc_vt, sc_v2, sc_v3, sc_vo, sc_vl, vo_nrf, vl_nrf, sc_vn, vn_nrf]) ⟨by omega, by omega, fun d _ _ => by omega⟩ ?_ ?_
        · simp (disch := first | omega | (simp only [List.length_append, List.length_cons, List.length_nil, List.length_replicate, List.length_set, List.length_take, List.length_drop, vi_len, vb_len, vo_len, vl_len, vn_len]; omega)) only [↓EC, EV, EL, E2, E3, ER, seval, ↓reduceIte, false_imp_iff, ColV_def]
        · rintro p ⟨p1, p2, p3⟩
          have pp : (p : Int) * (p : Int) ≤ 1600000000 := by
            have := Nat.mul_le_mul p2 p2
            rw [← Int.natCast_mul]
            omega
          have pp0 : 0 ≤ (p : Int) * (p : Int) := Int.mul_nonneg (by omega) (by omega)
          simp (disch := first | omega | (simp only [List.length_append, List.length_cons, List.length_nil, List.length_replicate, List.length_set, List.length_take, List.length_drop, vi_len, vb_len, vo_len, vl_len, vn_len]; omega)) only [↓EC, EV, EL, E2, E3, ER, seval, ↓reduceIte, false_imp_iff, ColV_def, lheap_def]
          (refine Split.mk (fun h => ?_) (fun h => ?_) <;> (try simp only [decide_eq_true_eq, decide_eq_false_iff_not, beq_iff_eq, bne_iff_ne, beq_eq_false_iff_ne, bne_eq_false_iff_eq, Bool.not_eq_true', Bool.not_eq_false', Bool.and_eq_true, Bool.or_eq_true, Bool.and_eq_false_iff, Bool.or_eq_false_iff, Int.not_lt, Int.not_le, Bool.false_eq_true, Bool.true_eq_false, false_and, and_false, true_and, and_true, or_false, false_or, or_true, true_or, not_true_eq_false, not_false_eq_true] at h))
          · (try simp (disch := first | omega | (simp only [List.length_append, List.length_cons, List.length_nil, List.length_replicate, List.length_set, List.length_take, List.length_drop, vi_len, vb_len, vo_len, vl_len, vn_len]; omega)) only [↓EC, EV, EL, E2, E3, ER, seval, ↓reduceIte, false_imp_iff])
            (refine Split.mk (fun h => ?_) (fun h => ?_) <;> (try simp only [decide_eq_true_eq, decide_eq_false_iff_not, beq_iff_eq, bne_iff_ne, beq_eq_false_iff_ne, bne_eq_false_iff_eq, Bool.not_eq_true', Bool.not_eq_false', Bool.and_eq_true, Bool.or_eq_true, Bool.and_eq_false_iff, Bool.or_eq_false_iff, Int.not_lt, Int.not_le, Bool.false_eq_true, Bool.true_eq_false, false_and, and_false, true_and, and_true, or_false, false_or, or_true, true_or, not_true_eq_false, not_false_eq_true] at h))
            · (try simp (disch := first | omega | (simp only [List.length_append, List.length_cons, List.length_nil, List.length_replicate, List.length_set, List.length_take, List.length_drop, vi_len, vb_len, vo_len, vl_len, vn_len]; omega)) only [↓EC, EV, EL, E2, E3, ER, seval, ↓reduceIte, false_imp_iff])
              have hd := h
              simp only [ne_eq, tmod_dvd] at hd
              exact ⟨p, rfl, .inr ⟨isP_of (by omega) hd p3, by omega, i, by omega, hd⟩⟩
            · (try simp (disch := first | omega | (simp only [List.length_append, List.length_cons, List.length_nil, List.length_replicate, List.length_set, List.length_take, List.length_drop, vi_len, vb_len, vo_len, vl_len, vn_len]; omega)) only [↓EC, EV, EL, E2, E3, ER, seval, ↓reduceIte, false_imp_iff])
              have hd := h
              simp only [ne_eq, tmod_dvd] at hd
              have hlt : p < 31624 := by
                refine Nat.lt_of_not_le fun hge => ?_
                have := Nat.mul_le_mul hge hge
                have : (31624 * 31624 : Int) ≤ (p : Int) * (p : Int) := by rw [← Int.natCast_mul]; omega
                omega
              refine ⟨p + 1, by simp, ⟨by omega, by omega, fun d d1 d2 => ?_⟩, by omega⟩
              by_cases e : d = p
              · subst e; exact hd
              · exact p3 d d1 (by omega)
          · (try simp (disch := first | omega | (simp only [List.length_append, List.length_cons, List.length_nil, List.length_replicate, List.length_set, List.length_take, List.length_drop, vi_len, vb_len, vo_len, vl_len, vn_len]; omega)) only [↓EC, EV, EL, E2, E3, ER, seval, ↓reduceIte, false_imp_iff])
            exact ⟨gi l i, rfl, .inr ⟨isP_self (p := p) (by omega) (by omega) p3 (by omega), g2, i, by omega, Int.dvd_refl _⟩⟩
    · (try simp (disch := first | omega | (simp only [List.length_append, List.length_cons, List.length_nil, List.length_replicate, List.length_set, List.length_take, List.length_drop, vi_len, vb_len, vo_len, vl_len, vn_len]; omega)) only [↓EC, EV, EL, E2, E3, ER, seval, ↓reduceIte, false_imp_iff])
      exact ⟨0, rfl, .inl ⟨rfl, fun j hj => h2 j (by omega)⟩⟩

/-! ### Dividing by a prime -/
def pA (m n : Nat) (l : List Int) : Int := gi l 0 ^ m * gi l 2 ^ n
def pB (m n : Nat) (l : List Int) : Int := gi l 1 ^ m * gi l 3 ^ n
def sum4 (l : List Int) : Int := gi l 0 + gi l 1 + gi l 2 + gi l 3
structure Ph (m n : Nat) (p : Int) (l0 l : List Int) (t : Int) : Prop where
  len : l.length = 4
  pos : one9 l
  le : ∀ j, j < 4 → gi l j ≤ gi l0 j
  ex : ∃ P Q : Nat, t = (P : Int) - Q ∧ pA m n l0 = p ^ P * pA m n l ∧ pB m n l0 = p ^ Q * pB m n l
  tb : -80000000000 ≤ t - 20 * sum4 l ∧ t + 20 * sum4 l ≤ 80000000000
theorem Ph_start {m n : Nat} {p : Int} {l : List Int} (h4 : l.length = 4) (hl : one9 l) : Ph m n p l l 0 := by
  refine ⟨h4, hl, fun j _ => Int.le_refl _, ⟨0, 0, rfl, by simp, by simp⟩, ?_⟩
  have := hl 0 (by omega); have := hl 1 (by omega); have := hl 2 (by omega); have := hl 3 (by omega)
  unfold sum4; omega
def pw (m n : Nat) : List Int := [(m : Int), -(m : Int), (n : Int), -(n : Int)]
theorem div_lt {a p : Int} (ha : 0 < a) (hp : 2 ≤ p) (hd : p ∣ a) : a.tdiv p < a ∧ 0 < a.tdiv p ∧ a = p * a.tdiv p := by
  obtain ⟨c, rfl⟩ := hd
  rw [Int.mul_tdiv_cancel_left _ (by omega)]
  have c0 : 0 < c := Int.pos_of_mul_pos_right (a := p) ha (by omega)
  refine ⟨?_, c0, rfl⟩
  have : 2 * c ≤ p * c := Int.mul_le_mul_of_nonneg_right hp (by omega)
  omega
theorem Ph_step {m n : Nat} {p t : Int} {l0 l : List Int} {i : Nat} (hm : 1 ≤ m ∧ m ≤ 20) (hn : 1 ≤ n ∧ n ≤ 20) (h : Ph m n p l0 l t) (hp : 2 ≤ p) (hi : i < 4) (hd : p ∣ gi l i) :
    Ph m n p l0 (l.set i ((gi l i).tdiv p)) (t + gi (pw m n) i) ∧ sum4 (l.set i ((gi l i).tdiv p)) < sum4 l := by
  obtain ⟨h1, h2, h3, ⟨P, Q, e1, e2, e3⟩, h5⟩ := h
  have g := h2 i (by omega)
  obtain ⟨d1, d2, d3⟩ := div_lt g.1 hp hd
  generalize hc : (gi l i).tdiv p = c at *
  have gs : ∀ j, j < 4 → gi (l.set i c) j = if i = j then c else gi l j := by
    intro j hj; rw [gi_set]
    by_cases e : i = j
    · rw [if_pos ⟨e, by omega⟩, if_pos e]
    · rw [if_neg (by omega), if_neg e]
  have g0 := gs 0 (by omega); have g1 := gs 1 (by omega); have g2 := gs 2 (by omega); have g3 := gs 3 (by omega)
  have i4 : i = 0 ∨ i = 1 ∨ i = 2 ∨ i = 3 := by omega
  refine ⟨⟨by simpa using h1, fun j hj => ?_, fun j hj => ?_, ?_, ?_⟩, ?_⟩
  · rw [gs j (by simpa [h1] using hj)]
    split
    · omega
    · exact h2 j (by simpa using hj)
  · rw [gs j hj]
    split
    · rename_i e; subst e; have := h3 i hj; omega
    · exact h3 j hj
  · rcases i4 with rfl | rfl | rfl | rfl
    · refine ⟨P + m, Q, by simp [pw, gi]; omega, ?_, ?_⟩
      · rw [e2]; unfold pA; rw [g0, g2]
        simp only [if_true, show ¬ (0 = 2) by omega, if_false]
        conv => lhs; rw [d3]
        rw [Int.mul_pow, Int.pow_add]; ac_rfl
      · rw [e3]; unfold pB; rw [g1, g3]
        simp
    · refine ⟨P, Q + m, by simp [pw, gi]; omega, ?_, ?_⟩
      · rw [e2]; unfold pA; rw [g0, g2]
        simp
      · rw [e3]; unfold pB; rw [g1, g3]
        simp only [if_true, show ¬ (1 = 3) by omega, if_false]
        conv => lhs; rw [d3]
        rw [Int.mul_pow, Int.pow_add]; ac_rfl
    · refine ⟨P + n, Q, by simp [pw, gi]; omega, ?_, ?_⟩
      · rw [e2]; unfold pA; rw [g0, g2]
        simp only [if_true, show ¬ (2 = 0) by omega, if_false]
        conv => lhs; rw [d3]
        rw [Int.mul_pow, Int.pow_add]; ac_rfl
      · rw [e3]; unfold pB; rw [g1, g3]
        simp
    · refine ⟨P, Q + n, by simp [pw, gi]; omega, ?_, ?_⟩
      · rw [e2]; unfold pA; rw [g0, g2]
        simp
      · rw [e3]; unfold pB; rw [g1, g3]
        simp only [if_true, show ¬ (3 = 1) by omega, if_false]
        conv => lhs; rw [d3]
        rw [Int.mul_pow, Int.pow_add]; ac_rfl
  · unfold sum4 at *
    rw [g0, g1, g2, g3]
    rcases i4 with rfl | rfl | rfl | rfl <;> simp [pw, gi] at * <;> omega
  · unfold sum4 at *
    rw [g0, g1, g2, g3]
    rcases i4 with rfl | rfl | rfl | rfl <;> simp at * <;> omega
theorem cop_pA {m n : Nat} {p : Int} {l : List Int} (hp : isP p) (h : ∀ j, j < 4 → ¬ p ∣ gi l j) : cop p (pA m n l) ∧ cop p (pB m n l) :=
  ⟨cop_mul_r (cop_pow_r (hp.2 _ (h 0 (by omega)))) (cop_pow_r (hp.2 _ (h 2 (by omega)))), cop_mul_r (cop_pow_r (hp.2 _ (h 1 (by omega)))) (cop_pow_r (hp.2 _ (h 3 (by omega))))⟩
/-- What a round leads to: the total is told, and what is found. -/
theorem Ph_round {m n : Nat} {N D on od p t : Int} {l0 l : List Int} (hp : isP p) (h : Pri N D on od (pA m n l0) (pB m n l0)) (hr : Ph m n p l0 l t) (hd : ∀ j, j < 4 → ¬ p ∣ gi l j) :
    Pri N D (on * p ^ t.toNat) (od * p ^ (-t).toNat) (pA m n l) (pB m n l) := by
  obtain ⟨P, Q, e1, e2, e3⟩ := hr.ex
  rw [e2, e3] at h
  obtain ⟨c1, c2⟩ := cop_pA (m := m) (n := n) hp hd
  by_cases hPQ : Q ≤ P
  · have h1 : t.toNat = P - Q := by omega
    have h2 : (-t).toNat = 0 := by omega
    rw [h1, h2, Int.pow_zero, Int.mul_one]
    exact Pri_up hp h c1 c2 hPQ
  · have h1 : (-t).toNat = Q - P := by omega
    have h2 : t.toNat = 0 := by omega
    rw [h1, h2, Int.pow_zero, Int.mul_one]
    exact Pri_dn hp h c1 c2 (by omega)
theorem sum4_lt {l0 l : List Int} {p : Int} (h : ∀ j, j < 4 → gi l j ≤ gi l0 j) (h1 : ∃ j, j < 4 ∧ p ∣ gi l0 j) (h2 : ∀ j, j < 4 → ¬ p ∣ gi l j) : sum4 l < sum4 l0 := by
  obtain ⟨j, hj, hp⟩ := h1
  have h3 : gi l j ≠ gi l0 j := by intro e; exact h2 j hj (by rw [e]; exact hp)
  have a0 := h 0 (by omega); have a1 := h 1 (by omega); have a2 := h 2 (by omega); have a3 := h 3 (by omega)
  have i4 : j = 0 ∨ j = 1 ∨ j = 2 ∨ j = 3 := by omega
  unfold sum4
  rcases i4 with rfl | rfl | rfl | rfl <;> omega
end Go.Proofs.Ytlfpiegadaiafaa.Sep
