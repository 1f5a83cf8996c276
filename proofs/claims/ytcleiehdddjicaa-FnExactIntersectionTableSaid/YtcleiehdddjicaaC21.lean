/- What the functions on coverings compute. -/
import Derived.Test.YtcleiehdddjicaaC20
namespace Go.Proofs.Ytcleiehdddjicaa.Sep
open Go.RowKit
set_option linter.unusedVariables false
set_option linter.unusedSimpArgs false
set_option maxRecDepth 20000

theorem c_laws_toInt64S {l : List Int} (hl : l.length ≤ 1048576) : PSpec Try.prog 19 [.sl l.length (vi .i64 l)] fun v => v = .own 2 1 l.length (vi .i64 l) := by
  refine laws_toInt64S_f.f ?_
  simp (disch := first | omega | (simp only [List.length_append, List.length_cons, List.length_nil, List.length_replicate, List.length_set, List.length_take, List.length_drop, vi_len, vb_len, vo_len, vl_len, vn_len]; omega)) only [↓EC, EV, EL, E2, E3, ER, seval, ↓reduceIte, false_imp_iff, laws_toInt64S_F]
  refine LP_of (σ := Nat × List Int) 100000 [(71, 2, 1)] (fun s => [.int .i64 s.1]) (fun s => [vi .i64 s.2])
    (fun s => s.1 ≤ l.length ∧ s.2.length = l.length ∧ ∀ j, j < s.1 → gi s.2 j = gi l j) (fun s => l.length - s.1) (0, List.replicate l.length 0) (by simp [frameOk, names, lpz, sclp, scv, scvs, vi_nrf, vb_nrf, vt_nrf, v2_nrf, v3_nrf, nrfs, nrf, sc_vi, sc_vb, sc_vt, sc_v2, sc_v3, sc_vo, sc_vl, vo_nrf, vl_nrf, sc_vn, vn_nrf]) ⟨Nat.zero_le _, by simp, fun j hj => absurd hj (Nat.not_lt_zero j)⟩ ?_ ?_
  · simp (disch := first | omega | (simp only [List.length_append, List.length_cons, List.length_nil, List.length_replicate, List.length_set, List.length_take, List.length_drop, vi_len, vb_len, vo_len, vl_len, vn_len]; omega)) only [↓EC, EV, EL, E2, E3, ER, seval, ↓reduceIte, false_imp_iff, ColV_def]
  · rintro ⟨i, m⟩ ⟨h1, h2, h3⟩
    simp only at h1 h2 h3
    simp (disch := first | omega | (simp only [List.length_append, List.length_cons, List.length_nil, List.length_replicate, List.length_set, List.length_take, List.length_drop, vi_len, vb_len, vo_len, vl_len, vn_len]; omega)) only [↓EC, EV, EL, E2, E3, ER, seval, ↓reduceIte, false_imp_iff, ColV_def, lheap_def]
    (refine Split.mk (fun h => ?_) (fun h => ?_) <;> (try simp only [decide_eq_true_eq, decide_eq_false_iff_not, beq_iff_eq, bne_iff_ne, beq_eq_false_iff_ne, bne_eq_false_iff_eq, Bool.not_eq_true', Bool.not_eq_false', Bool.and_eq_true, Bool.or_eq_true, Bool.and_eq_false_iff, Bool.or_eq_false_iff, Int.not_lt, Int.not_le, Bool.false_eq_true, Bool.true_eq_false, false_and, and_false, true_and, and_true, or_false, false_or, or_true, true_or, not_true_eq_false, not_false_eq_true] at h))
    · (try simp (disch := first | omega | (simp only [List.length_append, List.length_cons, List.length_nil, List.length_replicate, List.length_set, List.length_take, List.length_drop, vi_len, vb_len, vo_len, vl_len, vn_len]; omega)) only [↓EC, EV, EL, E2, E3, ER, seval, ↓reduceIte, false_imp_iff])
      refine ⟨(i + 1, m.set i (gi l i)), rfl, rfl, ⟨by omega, by simpa using h2, fun j hj => ?_⟩, by omega⟩
      simp only at hj ⊢
      rw [gi_set]
      by_cases e : i = j
      · subst e; simp; omega
      · rw [if_neg (by omega)]; exact h3 j (by omega)
    · (try simp (disch := first | omega | (simp only [List.length_append, List.length_cons, List.length_nil, List.length_replicate, List.length_set, List.length_take, List.length_drop, vi_len, vb_len, vo_len, vl_len, vn_len]; omega)) only [↓EC, EV, EL, E2, E3, ER, seval, ↓reduceIte, false_imp_iff])
      rw [gi_ext h2 fun j hj => h3 j (by omega)]
theorem c_laws_eqInt64S {l m : List Int} (hl : l.length ≤ 1048576) : PSpec Try.prog 10 [.sl l.length (vi .i64 l), .sl m.length (vi .i64 m)] fun v => v = .bool (decide (l = m)) := by
  refine laws_eqInt64S_f.f ?_
  simp (disch := first | omega | (simp only [List.length_append, List.length_cons, List.length_nil, List.length_replicate, List.length_set, List.length_take, List.length_drop, vi_len, vb_len, vo_len, vl_len, vn_len]; omega)) only [↓EC, EV, EL, E2, E3, ER, seval, ↓reduceIte, false_imp_iff, laws_eqInt64S_F]
  (refine Split.mk (fun h => ?_) (fun h => ?_) <;> (try simp only [decide_eq_true_eq, decide_eq_false_iff_not, beq_iff_eq, bne_iff_ne, beq_eq_false_iff_ne, bne_eq_false_iff_eq, Bool.not_eq_true', Bool.not_eq_false', Bool.and_eq_true, Bool.or_eq_true, Bool.and_eq_false_iff, Bool.or_eq_false_iff, Int.not_lt, Int.not_le, Bool.false_eq_true, Bool.true_eq_false, false_and, and_false, true_and, and_true, or_false, false_or, or_true, true_or, not_true_eq_false, not_false_eq_true] at h))
  · (try simp (disch := first | omega | (simp only [List.length_append, List.length_cons, List.length_nil, List.length_replicate, List.length_set, List.length_take, List.length_drop, vi_len, vb_len, vo_len, vl_len, vn_len]; omega)) only [↓EC, EV, EL, E2, E3, ER, seval, ↓reduceIte, false_imp_iff])
    rw [eq_comm, V.bool.injEq, decide_eq_false_iff_not]
    intro e; subst e; omega
  · refine LP_of (σ := Nat) 100000 [] (fun s => [.int .i64 s]) (fun s => [])
      (fun s => s ≤ l.length ∧ ∀ j, j < s → gi l j = gi m j) (fun s => l.length - s) 0 (by simp [frameOk, names, lpz, sclp, scv, scvs, vi_nrf, vb_nrf, vt_nrf, v2_nrf, v3_nrf, nrfs, nrf, sc_vi, sc_vb, sc_vt, sc_v2, sc_v3, sc_vo, sc_vl, vo_nrf, vl_nrf, sc_vn, vn_nrf]) ⟨Nat.zero_le _, fun j hj => absurd hj (Nat.not_lt_zero j)⟩ ?_ ?_
    · simp (disch := first | omega | (simp only [List.length_append, List.length_cons, List.length_nil, List.length_replicate, List.length_set, List.length_take, List.length_drop, vi_len, vb_len, vo_len, vl_len, vn_len]; omega)) only [↓EC, EV, EL, E2, E3, ER, seval, ↓reduceIte, false_imp_iff, ColV_def]
    · rintro i ⟨h1, h2⟩
      simp (disch := first | omega | (simp only [List.length_append, List.length_cons, List.length_nil, List.length_replicate, List.length_set, List.length_take, List.length_drop, vi_len, vb_len, vo_len, vl_len, vn_len]; omega)) only [↓EC, EV, EL, E2, E3, ER, seval, ↓reduceIte, false_imp_iff, ColV_def, lheap_def]
      (refine Split.mk (fun h => ?_) (fun h => ?_) <;> (try simp only [decide_eq_true_eq, decide_eq_false_iff_not, beq_iff_eq, bne_iff_ne, beq_eq_false_iff_ne, bne_eq_false_iff_eq, Bool.not_eq_true', Bool.not_eq_false', Bool.and_eq_true, Bool.or_eq_true, Bool.and_eq_false_iff, Bool.or_eq_false_iff, Int.not_lt, Int.not_le, Bool.false_eq_true, Bool.true_eq_false, false_and, and_false, true_and, and_true, or_false, false_or, or_true, true_or, not_true_eq_false, not_false_eq_true] at h))
      · (try simp (disch := first | omega | (simp only [List.length_append, List.length_cons, List.length_nil, List.length_replicate, List.length_set, List.length_take, List.length_drop, vi_len, vb_len, vo_len, vl_len, vn_len]; omega)) only [↓EC, EV, EL, E2, E3, ER, seval, ↓reduceIte, false_imp_iff])
        (refine Split.mk (fun h => ?_) (fun h => ?_) <;> (try simp only [decide_eq_true_eq, decide_eq_false_iff_not, beq_iff_eq, bne_iff_ne, beq_eq_false_iff_ne, bne_eq_false_iff_eq, Bool.not_eq_true', Bool.not_eq_false', Bool.and_eq_true, Bool.or_eq_true, Bool.and_eq_false_iff, Bool.or_eq_false_iff, Int.not_lt, Int.not_le, Bool.false_eq_true, Bool.true_eq_false, false_and, and_false, true_and, and_true, or_false, false_or, or_true, true_or, not_true_eq_false, not_false_eq_true] at h))
        · (try simp (disch := first | omega | (simp only [List.length_append, List.length_cons, List.length_nil, List.length_replicate, List.length_set, List.length_take, List.length_drop, vi_len, vb_len, vo_len, vl_len, vn_len]; omega)) only [↓EC, EV, EL, E2, E3, ER, seval, ↓reduceIte, false_imp_iff])
          rw [eq_comm, V.bool.injEq, decide_eq_false_iff_not]
          intro e; subst e; exact h rfl
        · (try simp (disch := first | omega | (simp only [List.length_append, List.length_cons, List.length_nil, List.length_replicate, List.length_set, List.length_take, List.length_drop, vi_len, vb_len, vo_len, vl_len, vn_len]; omega)) only [↓EC, EV, EL, E2, E3, ER, seval, ↓reduceIte, false_imp_iff])
          refine ⟨i + 1, rfl, ⟨by omega, fun j hj => ?_⟩, by omega⟩
          by_cases e : j = i
          · subst e; exact h
          · exact h2 j (by omega)
      · (try simp (disch := first | omega | (simp only [List.length_append, List.length_cons, List.length_nil, List.length_replicate, List.length_set, List.length_take, List.length_drop, vi_len, vb_len, vo_len, vl_len, vn_len]; omega)) only [↓EC, EV, EL, E2, E3, ER, seval, ↓reduceIte, false_imp_iff])
        rw [eq_comm, V.bool.injEq, decide_eq_true_eq]
        exact gi_ext (by omega) fun j hj => h2 j (by omega)

/-! ### Voltages -/
def rngB (l : List Int) (lo hi : Int) : Bool := l.all fun a => decide (lo ≤ a ∧ a ≤ hi)
def voltB (n m : Int) (l : List Int) : Bool := decide ((l.length : Int) = n) && l.all fun a => decide (0 ≤ a ∧ a < m)
theorem voltB_len {n m : Int} {l : List Int} (h : ¬ (l.length : Int) = n) : voltB n m l = false := by simp [voltB, h]
theorem voltB_no {n m : Int} {l : List Int} {i : Nat} (hi : i < l.length) (h : ¬ (0 ≤ gi l i ∧ gi l i < m)) : voltB n m l = false := by
  unfold voltB
  rw [Bool.and_eq_false_iff]
  right
  cases ha : l.all fun a => decide (0 ≤ a ∧ a < m) with
  | false => rfl
  | true => exact absurd (by simpa [gi] using (all_getD (d := 0)).1 ha i hi) h
theorem voltB_of {n m : Int} {l : List Int} (h1 : (l.length : Int) = n) (h2 : ∀ k, k < l.length → 0 ≤ gi l k ∧ gi l k < m) : voltB n m l = true := by
  unfold voltB
  rw [Bool.and_eq_true]
  exact ⟨by simp [h1], (all_getD (d := 0)).2 fun j hj => by simpa [gi] using h2 j hj⟩
theorem voltB_at {n m : Int} {l : List Int} (h : voltB n m l = true) : (l.length : Int) = n ∧ ∀ k, k < l.length → 0 ≤ gi l k ∧ gi l k < m := by
  unfold voltB at h
  rw [Bool.and_eq_true] at h
  exact ⟨by simpa using h.1, fun k hk => by simpa [gi] using (all_getD (d := 0)).1 h.2 k hk⟩
theorem voltB_rng {n m : Int} {l : List Int} : voltB n m l = (rngB l 0 (m - 1) && decide ((l.length : Int) = n)) := by
  unfold voltB rngB
  rw [Bool.and_comm]
  congr 2
  funext a
  exact decide_eq_decide.2 (by omega)

theorem c_spec_l09List {l : List Int} {n lo hi : Int} (hl : l.length ≤ 1048576) : PSpec Try.prog 60 [.sl l.length (vi .i64 l), .int .i64 n, .int .i64 lo, .int .i64 hi] fun v => v = .bool (rngB l lo hi && decide ((l.length : Int) = n)) := by
  refine spec_l09List_f.f ?_
  simp (disch := first | omega | (simp only [List.length_append, List.length_cons, List.length_nil, List.length_replicate, List.length_set, List.length_take, List.length_drop, vi_len, vb_len, vo_len, vl_len, vn_len]; omega)) only [↓EC, EV, EL, E2, E3, ER, seval, ↓reduceIte, false_imp_iff, spec_l09List_F]
  refine LP_of (σ := Nat) 100000 [] (fun s => [.int .i64 s]) (fun s => [])
    (fun s => s ≤ l.length ∧ ∀ j, j < s → lo ≤ gi l j ∧ gi l j ≤ hi) (fun s => l.length - s) 0 (by simp [frameOk, names, lpz, sclp, scv, scvs, vi_nrf, vb_nrf, vt_nrf, v2_nrf, v3_nrf, nrfs, nrf, sc_vi, sc_vb, sc_vt, sc_v2, sc_v3, sc_vo, sc_vl, vo_nrf, vl_nrf, sc_vn, vn_nrf]) ⟨Nat.zero_le _, fun j hj => absurd hj (Nat.not_lt_zero j)⟩ ?_ ?_
  · simp (disch := first | omega | (simp only [List.length_append, List.length_cons, List.length_nil, List.length_replicate, List.length_set, List.length_take, List.length_drop, vi_len, vb_len, vo_len, vl_len, vn_len]; omega)) only [↓EC, EV, EL, E2, E3, ER, seval, ↓reduceIte, false_imp_iff, ColV_def]
  · rintro i ⟨h1, h2⟩
    simp (disch := first | omega | (simp only [List.length_append, List.length_cons, List.length_nil, List.length_replicate, List.length_set, List.length_take, List.length_drop, vi_len, vb_len, vo_len, vl_len, vn_len]; omega)) only [↓EC, EV, EL, E2, E3, ER, seval, ↓reduceIte, false_imp_iff, ColV_def, lheap_def]
    (refine Split.mk (fun h => ?_) (fun h => ?_) <;> (try simp only [decide_eq_true_eq, decide_eq_false_iff_not, beq_iff_eq, bne_iff_ne, beq_eq_false_iff_ne, bne_eq_false_iff_eq, Bool.not_eq_true', Bool.not_eq_false', Bool.and_eq_true, Bool.or_eq_true, Bool.and_eq_false_iff, Bool.or_eq_false_iff, Int.not_lt, Int.not_le, Bool.false_eq_true, Bool.true_eq_false, false_and, and_false, true_and, and_true, or_false, false_or, or_true, true_or, not_true_eq_false, not_false_eq_true] at h))
    · (try simp (disch := first | omega | (simp only [List.length_append, List.length_cons, List.length_nil, List.length_replicate, List.length_set, List.length_take, List.length_drop, vi_len, vb_len, vo_len, vl_len, vn_len]; omega)) only [↓EC, EV, EL, E2, E3, ER, seval, ↓reduceIte, false_imp_iff])
      (refine pcd_v (c_spec_l01In) ?_; (try simp (disch := first | omega | (simp only [List.length_append, List.length_cons, List.length_nil, List.length_replicate, List.length_set, List.length_take, List.length_drop, vi_len, vb_len, vo_len, vl_len, vn_len]; omega)) only [↓EC, EV, EL, E2, E3, ER, seval, ↓reduceIte, false_imp_iff]))
      (refine Split.mk (fun h => ?_) (fun h => ?_) <;> (try simp only [decide_eq_true_eq, decide_eq_false_iff_not, beq_iff_eq, bne_iff_ne, beq_eq_false_iff_ne, bne_eq_false_iff_eq, Bool.not_eq_true', Bool.not_eq_false', Bool.and_eq_true, Bool.or_eq_true, Bool.and_eq_false_iff, Bool.or_eq_false_iff, Int.not_lt, Int.not_le, Bool.false_eq_true, Bool.true_eq_false, false_and, and_false, true_and, and_true, or_false, false_or, or_true, true_or, not_true_eq_false, not_false_eq_true] at h))
      · rw [eq_comm, V.bool.injEq, Bool.and_eq_false_iff]
        left
        cases ha : rngB l lo hi with
        | false => rfl
        | true => exact absurd (by simpa [gi] using (all_getD (d := 0)).1 ha i (by omega)) h
      · (try simp (disch := first | omega | (simp only [List.length_append, List.length_cons, List.length_nil, List.length_replicate, List.length_set, List.length_take, List.length_drop, vi_len, vb_len, vo_len, vl_len, vn_len]; omega)) only [↓EC, EV, EL, E2, E3, ER, seval, ↓reduceIte, false_imp_iff])
        refine ⟨i + 1, rfl, ⟨by omega, fun j hj => ?_⟩, by omega⟩
        by_cases e : j = i
        · subst e; exact h
        · exact h2 j (by omega)
    · have : rngB l lo hi = true := (all_getD (d := 0)).2 fun j hj => by simpa [gi] using h2 j (by omega)
      rw [this, Bool.true_and, V.bool.injEq]
      grind
end Go.Proofs.Ytcleiehdddjicaa.Sep
