/- What the functions on permutations and dessins compute. -/
import Derived.Test.YtjklebickfcddaaDoorSepRec
import Derived.Test.YtjklebickfcddaaDoorForm
namespace Go.Proofs.YtjklebickfcddaaDoor.Sep
open Go.RowKit
set_option linter.unusedVariables false
set_option linter.unusedSimpArgs false
set_option maxRecDepth 20000

/-- Sixteen bytes. -/
def okP (p : List Int) : Prop := p.length = 16 ∧ ∀ i, i < 16 → 0 ≤ gi p i ∧ gi p i ≤ 255
theorem okP.len {p : List Int} (h : okP p) : p.length = 16 := h.1

/-- A dessin's cells. -/
def vD (n : Int) (b w : List Int) : V := .agg (.int .i64 n :: vi .u8 (b ++ w))
/-! ### Permutations -/
def PmAt (p : List Int) (n : Int) (j : Nat) : Prop := ((j : Int) < n → gi p j < n ∧ ∀ k, k < j → gi p k ≠ gi p j) ∧ (n ≤ j → gi p j = 0)
def isPm (p : List Int) (n : Int) : Prop := (1 ≤ n ∧ n ≤ 16) ∧ ∀ j, j < 16 → PmAt p n j
noncomputable def isPmB (p : List Int) (n : Int) : Bool := by classical exact decide (isPm p n)
theorem isPmB_iff {p : List Int} {n : Int} : isPmB p n = true ↔ isPm p n := by simp [isPmB]
theorem isPmB_no {p : List Int} {n : Int} (h : ¬ isPm p n) : isPmB p n = false := by simp [isPmB, h]
theorem isPmB_yes {p : List Int} {n : Int} (h : isPm p n) : isPmB p n = true := isPmB_iff.2 h
theorem not_isPm {p : List Int} {n : Int} {i : Nat} (hi : i < 16) (h : ¬ PmAt p n i) : ¬ isPm p n := fun hp => h (hp.2 i hi)

/-- What a search for numbers that are met twice knows. -/
def Met (p : List Int) (n : Int) (m : List Bool) (i : Nat) : Prop := i ≤ 16 ∧ m.length = 16 ∧ (∀ j, j < i → PmAt p n j) ∧ ∀ x : Nat, x < 16 → (gb m x = true ↔ ∃ j, j < i ∧ (j : Int) < n ∧ gi p j = x)
theorem Met.zero (p : List Int) (n : Int) : Met p n (List.replicate 16 false) 0 := by
  refine ⟨Nat.zero_le _, by simp, fun j hj => absurd hj (Nat.not_lt_zero j), fun x hx => ?_⟩
  rw [gb_rep]; simp
theorem Met.skip {p : List Int} {n : Int} {m : List Bool} {i : Nat} (h : Met p n m i) (hi : i < 16) (hn : n ≤ i) (h0 : gi p i = 0) : Met p n m (i + 1) := by
  obtain ⟨h1, h2, h3, h4⟩ := h
  refine ⟨by omega, h2, fun j hj => ?_, fun x hx => ?_⟩
  · by_cases e : j = i
    · subst e; exact ⟨fun h => absurd h (by omega), fun _ => h0⟩
    · exact h3 j (by omega)
  · rw [h4 x hx]
    exact ⟨fun ⟨j, a, b, c⟩ => ⟨j, by omega, b, c⟩, fun ⟨j, a, b, c⟩ => ⟨j, by omega, b, c⟩⟩
theorem Met.put {p : List Int} {n : Int} {m : List Bool} {i : Nat} (h : Met p n m i) (hi : i < 16) (hn : (i : Int) < n) (hn16 : n ≤ 16) (h0 : 0 ≤ gi p i) (h1 : gi p i < n) (hm : gb m (gi p i).toNat = false) : Met p n (m.set (gi p i).toNat true) (i + 1) := by
  obtain ⟨g1, g2, g3, g4⟩ := h
  have hx16 : (gi p i).toNat < 16 := by omega
  refine ⟨by omega, by simpa using g2, fun j hj => ?_, fun x hx => ?_⟩
  · by_cases e : j = i
    · subst e
      refine ⟨fun _ => ⟨h1, fun k hk he => ?_⟩, fun h => absurd h (by omega)⟩
      have := (g4 (gi p j).toNat hx16).2 ⟨k, hk, by omega, by omega⟩
      rw [hm] at this; cases this
    · exact g3 j (by omega)
  · rw [gb_set, g2]
    by_cases e : (gi p i).toNat = x
    · rw [if_pos ⟨e, hx⟩]
      exact ⟨fun _ => ⟨i, by omega, hn, by omega⟩, fun _ => rfl⟩
    · rw [if_neg (fun h => e h.1), g4 x hx]
      refine ⟨fun ⟨j, a, b, c⟩ => ⟨j, by omega, b, c⟩, fun ⟨j, a, b, c⟩ => ⟨j, ?_, b, c⟩⟩
      have : j ≠ i := fun hj => e (by subst hj; omega)
      omega
theorem Met.twice {p : List Int} {n : Int} {m : List Bool} {i : Nat} (h : Met p n m i) (hn : (i : Int) < n) (hn16 : n ≤ 16) (h0 : 0 ≤ gi p i) (h1 : gi p i < n) (hm : gb m (gi p i).toNat = true) : ¬ PmAt p n i := by
  obtain ⟨j, a, b, c⟩ := (h.2.2.2 (gi p i).toNat (by omega)).1 hm
  exact fun hp => (hp.1 hn).2 j a (by omega)

theorem c_impl_isSize {n : Int} : PSpec Tryd.prog 71 [.int .i64 n] fun v => v = .bool (decide (1 ≤ n ∧ n ≤ 16)) := by
  refine impl_isSize_f.f ?_
  simp (disch := first | omega | (simp only [List.length_append, List.length_cons, List.length_nil, List.length_replicate, List.length_set, List.length_take, List.length_drop, vi_len, vb_len, vo_len, vl_len, vn_len]; omega)) only [↓EC, EV, EL, E2, E3, ER, seval, ↓reduceIte, false_imp_iff, impl_isSize_F]
  unfold Split
  simp only [V.bool.injEq]
  grind
theorem c_spec_l01In {n a b : Int} : PSpec Tryd.prog 42 [.int .i64 n, .int .i64 a, .int .i64 b] fun v => v = .bool (decide (a ≤ n ∧ n ≤ b)) := by
  refine spec_l01In_f.f ?_
  simp (disch := first | omega | (simp only [List.length_append, List.length_cons, List.length_nil, List.length_replicate, List.length_set, List.length_take, List.length_drop, vi_len, vb_len, vo_len, vl_len, vn_len]; omega)) only [↓EC, EV, EL, E2, E3, ER, seval, ↓reduceIte, false_imp_iff, spec_l01In_F]
  unfold Split
  simp only [V.bool.injEq]
  grind
theorem c_impl_IsPermutation {p : List Int} {n : Int} (hp : okP p) : PSpec Tryd.prog 44 [.agg (vi .u8 p), .int .i64 n] fun v => v = .bool (isPmB p n) := by
  have hl := hp.len
  refine impl_IsPermutation_f.f ?_
  simp (disch := first | omega | (simp only [List.length_append, List.length_cons, List.length_nil, List.length_replicate, List.length_set, List.length_take, List.length_drop, vi_len, vb_len, vo_len, vl_len, vn_len]; omega)) only [↓EC, EV, EL, E2, E3, ER, seval, ↓reduceIte, false_imp_iff, impl_IsPermutation_F]
  (refine pcd_v (c_impl_isSize) ?_; (try simp (disch := first | omega | (simp only [List.length_append, List.length_cons, List.length_nil, List.length_replicate, List.length_set, List.length_take, List.length_drop, vi_len, vb_len, vo_len, vl_len, vn_len]; omega)) only [↓EC, EV, EL, E2, E3, ER, seval, ↓reduceIte, false_imp_iff]))
  (refine Split.mk (fun h => ?_) (fun h => ?_) <;> (try simp only [decide_eq_true_eq, decide_eq_false_iff_not, beq_iff_eq, bne_iff_ne, beq_eq_false_iff_ne, bne_eq_false_iff_eq, Bool.not_eq_true', Bool.not_eq_false', Bool.and_eq_true, Bool.or_eq_true, Bool.and_eq_false_iff, Bool.or_eq_false_iff, Int.not_lt, Int.not_le, Bool.false_eq_true, Bool.true_eq_false, false_and, and_false, true_and, and_true, or_false, false_or, or_true, true_or, not_true_eq_false, not_false_eq_true] at h))
  · rw [isPmB_no fun h => absurd h.1 (by omega)]
  · refine LP_of (σ := Nat × List Bool) 100000 [(69, 54, 1)] (fun s => [.int .i64 s.1]) (fun s => [vb s.2])
      (fun s => Met p n s.2 s.1) (fun s => 16 - s.1) (0, List.replicate 16 false) (by simp [frameOk, names, lpz, sclp, scv, scvs, vi_nrf, vb_nrf, vt_nrf, v2_nrf, v3_nrf, nrfs, nrf, sc_vi, sc_vb, sc_vt, sc_v2, sc_v3, sc_vo, sc_vl, vo_nrf, vl_nrf, sc_vn, vn_nrf]) (Met.zero p n) ?_ ?_
    · simp (disch := first | omega | (simp only [List.length_append, List.length_cons, List.length_nil, List.length_replicate, List.length_set, List.length_take, List.length_drop, vi_len, vb_len, vo_len, vl_len, vn_len]; omega)) only [↓EC, EV, EL, E2, E3, ER, seval, ↓reduceIte, false_imp_iff, ColV_def]
    · rintro ⟨i, m⟩ hm
      have hm0 := hm
      obtain ⟨h1, h2, -, -⟩ := hm0
      simp only at h1 h2 hm
      simp (disch := first | omega | (simp only [List.length_append, List.length_cons, List.length_nil, List.length_replicate, List.length_set, List.length_take, List.length_drop, vi_len, vb_len, vo_len, vl_len, vn_len]; omega)) only [↓EC, EV, EL, E2, E3, ER, seval, ↓reduceIte, false_imp_iff, ColV_def, lheap_def]
      (refine Split.mk (fun h => ?_) (fun h => ?_) <;> (try simp only [decide_eq_true_eq, decide_eq_false_iff_not, beq_iff_eq, bne_iff_ne, beq_eq_false_iff_ne, bne_eq_false_iff_eq, Bool.not_eq_true', Bool.not_eq_false', Bool.and_eq_true, Bool.or_eq_true, Bool.and_eq_false_iff, Bool.or_eq_false_iff, Int.not_lt, Int.not_le, Bool.false_eq_true, Bool.true_eq_false, false_and, and_false, true_and, and_true, or_false, false_or, or_true, true_or, not_true_eq_false, not_false_eq_true] at h))
      · have hb := hp.2 i (by omega)
        (try simp (disch := first | omega | (simp only [List.length_append, List.length_cons, List.length_nil, List.length_replicate, List.length_set, List.length_take, List.length_drop, vi_len, vb_len, vo_len, vl_len, vn_len]; omega)) only [↓EC, EV, EL, E2, E3, ER, seval, ↓reduceIte, false_imp_iff])
        (refine Split.mk (fun h => ?_) (fun h => ?_) <;> (try simp only [decide_eq_true_eq, decide_eq_false_iff_not, beq_iff_eq, bne_iff_ne, beq_eq_false_iff_ne, bne_eq_false_iff_eq, Bool.not_eq_true', Bool.not_eq_false', Bool.and_eq_true, Bool.or_eq_true, Bool.and_eq_false_iff, Bool.or_eq_false_iff, Int.not_lt, Int.not_le, Bool.false_eq_true, Bool.true_eq_false, false_and, and_false, true_and, and_true, or_false, false_or, or_true, true_or, not_true_eq_false, not_false_eq_true] at h))
        · (refine Split.mk (fun h => ?_) (fun h => ?_) <;> (try simp only [decide_eq_true_eq, decide_eq_false_iff_not, beq_iff_eq, bne_iff_ne, beq_eq_false_iff_ne, bne_eq_false_iff_eq, Bool.not_eq_true', Bool.not_eq_false', Bool.and_eq_true, Bool.or_eq_true, Bool.and_eq_false_iff, Bool.or_eq_false_iff, Int.not_lt, Int.not_le, Bool.false_eq_true, Bool.true_eq_false, false_and, and_false, true_and, and_true, or_false, false_or, or_true, true_or, not_true_eq_false, not_false_eq_true] at h))
          · rw [isPmB_no (not_isPm (i := i) (by omega) fun hq => h (hq.2 (by omega)))]
          · (try simp (disch := first | omega | (simp only [List.length_append, List.length_cons, List.length_nil, List.length_replicate, List.length_set, List.length_take, List.length_drop, vi_len, vb_len, vo_len, vl_len, vn_len]; omega)) only [↓EC, EV, EL, E2, E3, ER, seval, ↓reduceIte, false_imp_iff])
            exact ⟨(i + 1, m), rfl, rfl, hm.skip (by omega) (by omega) h, by simp only; omega⟩
        · (refine Split.mk (fun h => ?_) (fun h => ?_) <;> (try simp only [decide_eq_true_eq, decide_eq_false_iff_not, beq_iff_eq, bne_iff_ne, beq_eq_false_iff_ne, bne_eq_false_iff_eq, Bool.not_eq_true', Bool.not_eq_false', Bool.and_eq_true, Bool.or_eq_true, Bool.and_eq_false_iff, Bool.or_eq_false_iff, Int.not_lt, Int.not_le, Bool.false_eq_true, Bool.true_eq_false, false_and, and_false, true_and, and_true, or_false, false_or, or_true, true_or, not_true_eq_false, not_false_eq_true] at h))
          · rw [isPmB_no (not_isPm (i := i) (by omega) fun hq => absurd (hq.1 (by omega)).1 (by omega))]
          · (try simp (disch := first | omega | (simp only [List.length_append, List.length_cons, List.length_nil, List.length_replicate, List.length_set, List.length_take, List.length_drop, vi_len, vb_len, vo_len, vl_len, vn_len]; omega)) only [↓EC, EV, EL, E2, E3, ER, seval, ↓reduceIte, false_imp_iff])
            (refine Split.mk (fun h => ?_) (fun h => ?_) <;> (try simp only [decide_eq_true_eq, decide_eq_false_iff_not, beq_iff_eq, bne_iff_ne, beq_eq_false_iff_ne, bne_eq_false_iff_eq, Bool.not_eq_true', Bool.not_eq_false', Bool.and_eq_true, Bool.or_eq_true, Bool.and_eq_false_iff, Bool.or_eq_false_iff, Int.not_lt, Int.not_le, Bool.false_eq_true, Bool.true_eq_false, false_and, and_false, true_and, and_true, or_false, false_or, or_true, true_or, not_true_eq_false, not_false_eq_true] at h))
            · rw [isPmB_no (not_isPm (i := i) (by omega) (hm.twice (by omega) (by omega) hb.1 (by omega) h))]
            · (try simp (disch := first | omega | (simp only [List.length_append, List.length_cons, List.length_nil, List.length_replicate, List.length_set, List.length_take, List.length_drop, vi_len, vb_len, vo_len, vl_len, vn_len]; omega)) only [↓EC, EV, EL, E2, E3, ER, seval, ↓reduceIte, false_imp_iff])
              exact ⟨(i + 1, m.set (gi p i).toNat true), rfl, rfl, hm.put (by omega) (by omega) (by omega) hb.1 (by omega) h, by simp only; omega⟩
      · (try simp (disch := first | omega | (simp only [List.length_append, List.length_cons, List.length_nil, List.length_replicate, List.length_set, List.length_take, List.length_drop, vi_len, vb_len, vo_len, vl_len, vn_len]; omega)) only [↓EC, EV, EL, E2, E3, ER, seval, ↓reduceIte, false_imp_iff])
        rw [isPmB_yes ⟨by omega, fun j hj => hm.2.2.1 j (by omega)⟩]
theorem c_spec_l01Perm {p : List Int} {n : Int} (hp : okP p) : PSpec Tryd.prog 60 [.agg (vi .u8 p), .int .i64 n] fun v => v = .bool (isPmB p n) := by
  have hl := hp.len
  refine spec_l01Perm_f.f ?_
  simp (disch := first | omega | (simp only [List.length_append, List.length_cons, List.length_nil, List.length_replicate, List.length_set, List.length_take, List.length_drop, vi_len, vb_len, vo_len, vl_len, vn_len]; omega)) only [↓EC, EV, EL, E2, E3, ER, seval, ↓reduceIte, false_imp_iff, spec_l01Perm_F]
  (refine pcd_v (c_spec_l01In) ?_; (try simp (disch := first | omega | (simp only [List.length_append, List.length_cons, List.length_nil, List.length_replicate, List.length_set, List.length_take, List.length_drop, vi_len, vb_len, vo_len, vl_len, vn_len]; omega)) only [↓EC, EV, EL, E2, E3, ER, seval, ↓reduceIte, false_imp_iff]))
  (refine Split.mk (fun h => ?_) (fun h => ?_) <;> (try simp only [decide_eq_true_eq, decide_eq_false_iff_not, beq_iff_eq, bne_iff_ne, beq_eq_false_iff_ne, bne_eq_false_iff_eq, Bool.not_eq_true', Bool.not_eq_false', Bool.and_eq_true, Bool.or_eq_true, Bool.and_eq_false_iff, Bool.or_eq_false_iff, Int.not_lt, Int.not_le, Bool.false_eq_true, Bool.true_eq_false, false_and, and_false, true_and, and_true, or_false, false_or, or_true, true_or, not_true_eq_false, not_false_eq_true] at h))
  · rw [isPmB_no fun h => absurd h.1 (by omega)]
  · refine LP_of (σ := Nat × List Bool) 100000 [(66, 29, 1), (69, 54, 1)] (fun s => [.int .i64 s.1]) (fun s => [vi .u8 p, vb s.2])
      (fun s => Met p n s.2 s.1) (fun s => 16 - s.1) (0, List.replicate 16 false) (by simp [frameOk, names, lpz, sclp, scv, scvs, vi_nrf, vb_nrf, vt_nrf, v2_nrf, v3_nrf, nrfs, nrf, sc_vi, sc_vb, sc_vt, sc_v2, sc_v3, sc_vo, sc_vl, vo_nrf, vl_nrf, sc_vn, vn_nrf]) (Met.zero p n) ?_ ?_
    · simp (disch := first | omega | (simp only [List.length_append, List.length_cons, List.length_nil, List.length_replicate, List.length_set, List.length_take, List.length_drop, vi_len, vb_len, vo_len, vl_len, vn_len]; omega)) only [↓EC, EV, EL, E2, E3, ER, seval, ↓reduceIte, false_imp_iff, ColV_def]
    · rintro ⟨i, m⟩ hm
      have hm0 := hm
      obtain ⟨h1, h2, -, -⟩ := hm0
      simp only at h1 h2 hm
      simp (disch := first | omega | (simp only [List.length_append, List.length_cons, List.length_nil, List.length_replicate, List.length_set, List.length_take, List.length_drop, vi_len, vb_len, vo_len, vl_len, vn_len]; omega)) only [↓EC, EV, EL, E2, E3, ER, seval, ↓reduceIte, false_imp_iff, ColV_def, lheap_def]
      (refine Split.mk (fun h => ?_) (fun h => ?_) <;> (try simp only [decide_eq_true_eq, decide_eq_false_iff_not, beq_iff_eq, bne_iff_ne, beq_eq_false_iff_ne, bne_eq_false_iff_eq, Bool.not_eq_true', Bool.not_eq_false', Bool.and_eq_true, Bool.or_eq_true, Bool.and_eq_false_iff, Bool.or_eq_false_iff, Int.not_lt, Int.not_le, Bool.false_eq_true, Bool.true_eq_false, false_and, and_false, true_and, and_true, or_false, false_or, or_true, true_or, not_true_eq_false, not_false_eq_true] at h))
      · have hb := hp.2 i (by omega)
        (try simp (disch := first | omega | (simp only [List.length_append, List.length_cons, List.length_nil, List.length_replicate, List.length_set, List.length_take, List.length_drop, vi_len, vb_len, vo_len, vl_len, vn_len]; omega)) only [↓EC, EV, EL, E2, E3, ER, seval, ↓reduceIte, false_imp_iff])
        (refine Split.mk (fun h => ?_) (fun h => ?_) <;> (try simp only [decide_eq_true_eq, decide_eq_false_iff_not, beq_iff_eq, bne_iff_ne, beq_eq_false_iff_ne, bne_eq_false_iff_eq, Bool.not_eq_true', Bool.not_eq_false', Bool.and_eq_true, Bool.or_eq_true, Bool.and_eq_false_iff, Bool.or_eq_false_iff, Int.not_lt, Int.not_le, Bool.false_eq_true, Bool.true_eq_false, false_and, and_false, true_and, and_true, or_false, false_or, or_true, true_or, not_true_eq_false, not_false_eq_true] at h))
        · (try simp (disch := first | omega | (simp only [List.length_append, List.length_cons, List.length_nil, List.length_replicate, List.length_set, List.length_take, List.length_drop, vi_len, vb_len, vo_len, vl_len, vn_len]; omega)) only [↓EC, EV, EL, E2, E3, ER, seval, ↓reduceIte, false_imp_iff])
          (refine Split.mk (fun h => ?_) (fun h => ?_) <;> (try simp only [decide_eq_true_eq, decide_eq_false_iff_not, beq_iff_eq, bne_iff_ne, beq_eq_false_iff_ne, bne_eq_false_iff_eq, Bool.not_eq_true', Bool.not_eq_false', Bool.and_eq_true, Bool.or_eq_true, Bool.and_eq_false_iff, Bool.or_eq_false_iff, Int.not_lt, Int.not_le, Bool.false_eq_true, Bool.true_eq_false, false_and, and_false, true_and, and_true, or_false, false_or, or_true, true_or, not_true_eq_false, not_false_eq_true] at h))
          · rw [isPmB_no (not_isPm (i := i) (by omega) fun hq => h (hq.2 (by omega)))]
          · (try simp (disch := first | omega | (simp only [List.length_append, List.length_cons, List.length_nil, List.length_replicate, List.length_set, List.length_take, List.length_drop, vi_len, vb_len, vo_len, vl_len, vn_len]; omega)) only [↓EC, EV, EL, E2, E3, ER, seval, ↓reduceIte, false_imp_iff])
            exact ⟨(i + 1, m), rfl, rfl, hm.skip (by omega) (by omega) h, by simp only; omega⟩
        · (try simp (disch := first | omega | (simp only [List.length_append, List.length_cons, List.length_nil, List.length_replicate, List.length_set, List.length_take, List.length_drop, vi_len, vb_len, vo_len, vl_len, vn_len]; omega)) only [↓EC, EV, EL, E2, E3, ER, seval, ↓reduceIte, false_imp_iff])
          (refine Split.mk (fun h => ?_) (fun h => ?_) <;> (try simp only [decide_eq_true_eq, decide_eq_false_iff_not, beq_iff_eq, bne_iff_ne, beq_eq_false_iff_ne, bne_eq_false_iff_eq, Bool.not_eq_true', Bool.not_eq_false', Bool.and_eq_true, Bool.or_eq_true, Bool.and_eq_false_iff, Bool.or_eq_false_iff, Int.not_lt, Int.not_le, Bool.false_eq_true, Bool.true_eq_false, false_and, and_false, true_and, and_true, or_false, false_or, or_true, true_or, not_true_eq_false, not_false_eq_true] at h))
          · rw [isPmB_no (not_isPm (i := i) (by omega) fun hq => absurd (hq.1 (by omega)).1 (by omega))]
          · (try simp (disch := first | omega | (simp only [List.length_append, List.length_cons, List.length_nil, List.length_replicate, List.length_set, List.length_take, List.length_drop, vi_len, vb_len, vo_len, vl_len, vn_len]; omega)) only [↓EC, EV, EL, E2, E3, ER, seval, ↓reduceIte, false_imp_iff])
            (refine Split.mk (fun h => ?_) (fun h => ?_) <;> (try simp only [decide_eq_true_eq, decide_eq_false_iff_not, beq_iff_eq, bne_iff_ne, beq_eq_false_iff_ne, bne_eq_false_iff_eq, Bool.not_eq_true', Bool.not_eq_false', Bool.and_eq_true, Bool.or_eq_true, Bool.and_eq_false_iff, Bool.or_eq_false_iff, Int.not_lt, Int.not_le, Bool.false_eq_true, Bool.true_eq_false, false_and, and_false, true_and, and_true, or_false, false_or, or_true, true_or, not_true_eq_false, not_false_eq_true] at h))
            · rw [isPmB_no (not_isPm (i := i) (by omega) (hm.twice (by omega) (by omega) hb.1 (by omega) h))]
            · (try simp (disch := first | omega | (simp only [List.length_append, List.length_cons, List.length_nil, List.length_replicate, List.length_set, List.length_take, List.length_drop, vi_len, vb_len, vo_len, vl_len, vn_len]; omega)) only [↓EC, EV, EL, E2, E3, ER, seval, ↓reduceIte, false_imp_iff])
              exact ⟨(i + 1, m.set (gi p i).toNat true), rfl, rfl, hm.put (by omega) (by omega) (by omega) hb.1 (by omega) h, by simp only; omega⟩
      · (try simp (disch := first | omega | (simp only [List.length_append, List.length_cons, List.length_nil, List.length_replicate, List.length_set, List.length_take, List.length_drop, vi_len, vb_len, vo_len, vl_len, vn_len]; omega)) only [↓EC, EV, EL, E2, E3, ER, seval, ↓reduceIte, false_imp_iff])
        rw [isPmB_yes ⟨by omega, fun j hj => hm.2.2.1 j (by omega)⟩]

/-! ### What is reached from 0 -/
abbrev Sr := List Int × List Bool
def visit (y : Int) (s : Sr) : Sr := if gb s.2 y.toNat = true then s else (s.1 ++ [y], s.2.set y.toNat true)
def srStep (p q : List Int) (i : Nat) (s : Sr) : Sr := visit (gi q (gi s.1 i).toNat) (visit (gi p (gi s.1 i).toNat) s)
def srRun (p q : List Int) : Nat → Nat → Sr → Sr
  | 0, _, s => s
  | k + 1, i, s => if i < s.1.length then srRun p q k (i + 1) (srStep p q i s) else s
def sr0 : Sr := ([0], (List.replicate 16 false).set 0 true)
def cntR (p q : List Int) : Nat := (srRun p q 17 0 sr0).1.length
/-- Numbers below 16. -/
def lo16 (p : List Int) : Prop := p.length = 16 ∧ ∀ i, i < 16 → 0 ≤ gi p i ∧ gi p i < 16
theorem isPm.lo {p : List Int} {n : Int} (hp : okP p) (h : isPm p n) : lo16 p := ⟨hp.1, fun i hi => by
  obtain ⟨h1, h2⟩ := h
  have h3 := h2 i hi
  have := (hp.2 i hi).1
  by_cases h4 : (i : Int) < n
  · have := (h3.1 h4).1; omega
  · have := h3.2 (by omega); omega⟩
structure SrOk (s : Sr) : Prop where
  len : s.2.length = 16
  cnt : s.1.length = s.2.count true
  lo : ∀ j, j < s.1.length → 0 ≤ gi s.1 j ∧ gi s.1 j < 16
theorem SrOk.le {s : Sr} (h : SrOk s) : s.1.length ≤ 16 := by
  rw [h.cnt, ← h.len]; exact List.count_le_length
theorem sr0_ok : SrOk sr0 := ⟨rfl, rfl, fun j hj => by
  have : j = 0 := by simp [sr0] at hj; exact hj
  subst this; decide⟩
theorem visit_ok {s : Sr} (h : SrOk s) {y : Int} (hy : 0 ≤ y ∧ y < 16) : SrOk (visit y s) := by
  unfold visit
  split
  · exact h
  · rename_i hv
    have hl : y.toNat < s.2.length := by rw [h.len]; omega
    refine ⟨by simp [h.len], ?_, fun j hj => ?_⟩
    · have hg : s.2[y.toNat] = false := by
        have := gb_of hl
        rw [← this]; simpa using hv
      simp only [List.length_append, List.length_cons, List.length_nil]
      rw [List.count_set hl, hg, h.cnt]
      simp
    · simp only [List.length_append, List.length_cons, List.length_nil] at hj
      simp only [gi_app]
      split
      · exact h.lo j (by assumption)
      · have : j - s.1.length = 0 := by omega
        rw [this]; exact hy
theorem visit_len {s : Sr} {y : Int} : s.1.length ≤ (visit y s).1.length := by
  unfold visit; split <;> simp
theorem srStep_ok {p q : List Int} (hp : lo16 p) (hq : lo16 q) {s : Sr} (h : SrOk s) {i : Nat} (hi : i < s.1.length) : SrOk (srStep p q i s) := by
  have h0 := h.lo i hi
  exact visit_ok (visit_ok h (hp.2 _ (by omega))) (hq.2 _ (by omega))
theorem srStep_len {p q : List Int} {s : Sr} {i : Nat} : s.1.length ≤ (srStep p q i s).1.length := Nat.le_trans visit_len visit_len
theorem visit_yes {s : Sr} {y : Int} (h : gb s.2 y.toNat = true) : visit y s = s := if_pos h
theorem visit_no {s : Sr} {y : Int} (h : gb s.2 y.toNat = false) : visit y s = (s.1 ++ [y], s.2.set y.toNat true) := if_neg (by simp [h])

theorem c_impl_reached {n : Int} {p q : List Int} (hp : lo16 p) (hq : lo16 q) : PSpec Tryd.prog 57 [.int .i64 n, .sl 2 (vi .u8 (p ++ q))] fun v => v = .int .i64 (cntR p q) := by
  have hl := hp.1
  have hk := hq.1
  refine impl_reached_f.f ?_
  simp (disch := first | omega | (simp only [List.length_append, List.length_cons, List.length_nil, List.length_replicate, List.length_set, List.length_take, List.length_drop, vi_len, vb_len, vo_len, vl_len, vn_len]; omega)) only [↓EC, EV, EL, E2, E3, ER, seval, ↓reduceIte, false_imp_iff, impl_reached_F]
  refine LP_of (σ := Sr × Nat) 100000 [(69, 54, 1)] (fun s => [.own 5 1 s.1.1.length (vi .u8 s.1.1), .int .i64 s.2]) (fun s => [vb s.1.2])
    (fun s => SrOk s.1 ∧ s.2 ≤ s.1.1.length ∧ srRun p q (17 - s.2) s.2 s.1 = srRun p q 17 0 sr0) (fun s => 17 - s.2) (sr0, 0) (by simp [frameOk, names, lpz, sclp, scv, scvs, vi_nrf, vb_nrf, vt_nrf, v2_nrf, v3_nrf, nrfs, nrf, sc_vi, sc_vb, sc_vt, sc_v2, sc_v3, sc_vo, sc_vl, vo_nrf, vl_nrf, sc_vn, vn_nrf]) ⟨sr0_ok, Nat.zero_le _, rfl⟩ ?_ ?_
  · simp (disch := first | omega | (simp only [List.length_append, List.length_cons, List.length_nil, List.length_replicate, List.length_set, List.length_take, List.length_drop, vi_len, vb_len, vo_len, vl_len, vn_len]; omega)) only [↓EC, EV, EL, E2, E3, ER, seval, ↓reduceIte, false_imp_iff, ColV_def]
    exact ⟨rfl, rfl⟩
  · rintro ⟨⟨l, m⟩, i⟩ ⟨h1, h2, h3⟩
    simp only at h1 h2 h3
    have hm := h1.len
    have hle := h1.le
    simp only at hm hle
    simp (disch := first | omega | (simp only [List.length_append, List.length_cons, List.length_nil, List.length_replicate, List.length_set, List.length_take, List.length_drop, vi_len, vb_len, vo_len, vl_len, vn_len]; omega)) only [↓EC, EV, EL, E2, E3, ER, seval, ↓reduceIte, false_imp_iff, ColV_def, lheap_def]
    (refine Split.mk (fun h => ?_) (fun h => ?_) <;> (try simp only [decide_eq_true_eq, decide_eq_false_iff_not, beq_iff_eq, bne_iff_ne, beq_eq_false_iff_ne, bne_eq_false_iff_eq, Bool.not_eq_true', Bool.not_eq_false', Bool.and_eq_true, Bool.or_eq_true, Bool.and_eq_false_iff, Bool.or_eq_false_iff, Int.not_lt, Int.not_le, Bool.false_eq_true, Bool.true_eq_false, false_and, and_false, true_and, and_true, or_false, false_or, or_true, true_or, not_true_eq_false, not_false_eq_true] at h))
    · have hi : i < l.length := by omega
      have hlo := h1.lo i hi
      simp only at hlo
      have hy1 := hp.2 (gi l i).toNat (by omega)
      have hy2 := hq.2 (gi l i).toNat (by omega)
      have hg : ∀ y, gi (visit y (l, m)).1 i = gi l i := fun y => by
        unfold visit; split
        · rfl
        · simp only [gi_app, if_pos hi]
      refine LP_of (σ := Sr × Nat) 200000 [(69, 54, 1)] (fun s => [.own 5 1 s.1.1.length (vi .u8 s.1.1), .int .i64 s.2]) (fun s => [vb s.1.2])
        (fun s => s.2 ≤ 2 ∧ s.1 = if s.2 = 0 then (l, m) else if s.2 = 1 then visit (gi p (gi l i).toNat) (l, m) else srStep p q i (l, m)) (fun s => 2 - s.2) ((l, m), 0) (by simp [frameOk, names, lpz, sclp, scv, scvs, vi_nrf, vb_nrf, vt_nrf, v2_nrf, v3_nrf, nrfs, nrf, sc_vi, sc_vb, sc_vt, sc_v2, sc_v3, sc_vo, sc_vl, vo_nrf, vl_nrf, sc_vn, vn_nrf]) ⟨Nat.zero_le 2, rfl⟩ ?_ ?_
      · simp (disch := first | omega | (simp only [List.length_append, List.length_cons, List.length_nil, List.length_replicate, List.length_set, List.length_take, List.length_drop, vi_len, vb_len, vo_len, vl_len, vn_len]; omega)) only [↓EC, EV, EL, E2, E3, ER, seval, ↓reduceIte, false_imp_iff, ColV_def]
      · rintro ⟨s, j⟩ ⟨g1, g2⟩
        simp only at g1 g2
        have hs : SrOk s := by
          rw [g2]; split
          · exact h1
          · split
            · exact visit_ok h1 hy1
            · exact srStep_ok hp hq h1 hi
        have hsm := hs.len
        have hsl := hs.le
        have hgs : gi s.1 i = gi l i ∧ i < s.1.length := by
          rw [g2]; split
          · exact ⟨rfl, hi⟩
          · split
            · exact ⟨hg _, Nat.lt_of_lt_of_le hi (visit_len (s := (l, m)))⟩
            · exact ⟨by unfold srStep; rw [visit]; split; exact hg _; simp only [gi_app]; rw [if_pos (Nat.lt_of_lt_of_le hi (visit_len (s := (l, m))))]; exact hg _, Nat.lt_of_lt_of_le hi (srStep_len (s := (l, m)))⟩
        obtain ⟨hgs, hil⟩ := hgs
        simp (disch := first | omega | (simp only [List.length_append, List.length_cons, List.length_nil, List.length_replicate, List.length_set, List.length_take, List.length_drop, vi_len, vb_len, vo_len, vl_len, vn_len]; omega)) only [↓EC, EV, EL, E2, E3, ER, seval, ↓reduceIte, false_imp_iff, ColV_def, lheap_def]
        (refine Split.mk (fun h => ?_) (fun h => ?_) <;> (try simp only [decide_eq_true_eq, decide_eq_false_iff_not, beq_iff_eq, bne_iff_ne, beq_eq_false_iff_ne, bne_eq_false_iff_eq, Bool.not_eq_true', Bool.not_eq_false', Bool.and_eq_true, Bool.or_eq_true, Bool.and_eq_false_iff, Bool.or_eq_false_iff, Int.not_lt, Int.not_le, Bool.false_eq_true, Bool.true_eq_false, false_and, and_false, true_and, and_true, or_false, false_or, or_true, true_or, not_true_eq_false, not_false_eq_true] at h))
        · have hj : j = 0 ∨ j = 1 := by omega
          rcases hj with rfl | rfl
          · (try simp (disch := first | omega | (simp only [List.length_append, List.length_cons, List.length_nil, List.length_replicate, List.length_set, List.length_take, List.length_drop, vi_len, vb_len, vo_len, vl_len, vn_len]; omega)) only [↓EC, EV, EL, E2, E3, ER, seval, ↓reduceIte, false_imp_iff, hgs, hl, hk])
            rw [if_pos rfl] at g2
            (refine Split.mk (fun h => ?_) (fun h => ?_) <;> (try simp only [decide_eq_true_eq, decide_eq_false_iff_not, beq_iff_eq, bne_iff_ne, beq_eq_false_iff_ne, bne_eq_false_iff_eq, Bool.not_eq_true', Bool.not_eq_false', Bool.and_eq_true, Bool.or_eq_true, Bool.and_eq_false_iff, Bool.or_eq_false_iff, Int.not_lt, Int.not_le, Bool.false_eq_true, Bool.true_eq_false, false_and, and_false, true_and, and_true, or_false, false_or, or_true, true_or, not_true_eq_false, not_false_eq_true] at h))
            · exact ⟨(visit (gi p (gi l i).toNat) s, 1), by rw [visit_no h]; simp, by rw [visit_no h], ⟨by simp, by rw [g2]; rfl⟩, by simp⟩
            · exact ⟨(visit (gi p (gi l i).toNat) s, 1), by rw [visit_yes h]; simp, by rw [visit_yes h], ⟨by simp, by rw [g2]; rfl⟩, by simp⟩
          · (try simp (disch := first | omega | (simp only [List.length_append, List.length_cons, List.length_nil, List.length_replicate, List.length_set, List.length_take, List.length_drop, vi_len, vb_len, vo_len, vl_len, vn_len]; omega)) only [↓EC, EV, EL, E2, E3, ER, seval, ↓reduceIte, false_imp_iff, hgs, hl, hk])
            rw [if_neg (by decide), if_pos rfl] at g2
            (refine Split.mk (fun h => ?_) (fun h => ?_) <;> (try simp only [decide_eq_true_eq, decide_eq_false_iff_not, beq_iff_eq, bne_iff_ne, beq_eq_false_iff_ne, bne_eq_false_iff_eq, Bool.not_eq_true', Bool.not_eq_false', Bool.and_eq_true, Bool.or_eq_true, Bool.and_eq_false_iff, Bool.or_eq_false_iff, Int.not_lt, Int.not_le, Bool.false_eq_true, Bool.true_eq_false, false_and, and_false, true_and, and_true, or_false, false_or, or_true, true_or, not_true_eq_false, not_false_eq_true] at h))
            · exact ⟨(visit (gi q (gi l i).toNat) s, 2), by rw [visit_no h]; simp, by rw [visit_no h], ⟨by simp, by rw [g2]; rfl⟩, by simp⟩
            · exact ⟨(visit (gi q (gi l i).toNat) s, 2), by rw [visit_yes h]; simp, by rw [visit_yes h], ⟨by simp, by rw [g2]; rfl⟩, by simp⟩
        · (try simp (disch := first | omega | (simp only [List.length_append, List.length_cons, List.length_nil, List.length_replicate, List.length_set, List.length_take, List.length_drop, vi_len, vb_len, vo_len, vl_len, vn_len]; omega)) only [↓EC, EV, EL, E2, E3, ER, seval, ↓reduceIte, false_imp_iff])
          rw [if_neg (by omega), if_neg (by omega)] at g2
          refine ⟨(s, i + 1), rfl, rfl, ⟨hs, hil, ?_⟩, by simp only; omega⟩
          rw [show 17 - i = 16 - i + 1 from by omega] at h3
          simp only [srRun, if_pos hi] at h3
          try simp only
          rw [g2, show 17 - (i + 1) = 16 - i from by omega]
          exact h3
    · (try simp (disch := first | omega | (simp only [List.length_append, List.length_cons, List.length_nil, List.length_replicate, List.length_set, List.length_take, List.length_drop, vi_len, vb_len, vo_len, vl_len, vn_len]; omega)) only [↓EC, EV, EL, E2, E3, ER, seval, ↓reduceIte, false_imp_iff])
      unfold cntR
      rw [← h3, show 17 - i = 16 - i + 1 from by omega]
      simp only [srRun]
      rw [if_neg (by omega)]

theorem c_spec_l01Connected {n : Int} {p q : List Int} (hp : lo16 p) (hq : lo16 q) : PSpec Tryd.prog 61 [.int .i64 n, .agg (vi .u8 p), .agg (vi .u8 q)] fun v => v = .bool (decide ((cntR p q : Int) = n)) := by
  have hl := hp.1
  have hk := hq.1
  refine spec_l01Connected_f.f ?_
  simp (disch := first | omega | (simp only [List.length_append, List.length_cons, List.length_nil, List.length_replicate, List.length_set, List.length_take, List.length_drop, vi_len, vb_len, vo_len, vl_len, vn_len]; omega)) only [↓EC, EV, EL, E2, E3, ER, seval, ↓reduceIte, false_imp_iff, spec_l01Connected_F]
  refine LP_of (σ := Sr × Nat) 100000 [(68, 29, 1), (69, 29, 1), (71, 54, 1)] (fun s => [.own 5 1 s.1.1.length (vi .u8 s.1.1), .int .i64 s.2]) (fun s => [vi .u8 p, vi .u8 q, vb s.1.2])
    (fun s => SrOk s.1 ∧ s.2 ≤ s.1.1.length ∧ srRun p q (17 - s.2) s.2 s.1 = srRun p q 17 0 sr0) (fun s => 17 - s.2) (sr0, 0) (by simp [frameOk, names, lpz, sclp, scv, scvs, vi_nrf, vb_nrf, vt_nrf, v2_nrf, v3_nrf, nrfs, nrf, sc_vi, sc_vb, sc_vt, sc_v2, sc_v3, sc_vo, sc_vl, vo_nrf, vl_nrf, sc_vn, vn_nrf]) ⟨sr0_ok, Nat.zero_le _, rfl⟩ ?_ ?_
  · simp (disch := first | omega | (simp only [List.length_append, List.length_cons, List.length_nil, List.length_replicate, List.length_set, List.length_take, List.length_drop, vi_len, vb_len, vo_len, vl_len, vn_len]; omega)) only [↓EC, EV, EL, E2, E3, ER, seval, ↓reduceIte, false_imp_iff, ColV_def]
    exact ⟨rfl, rfl⟩
  · rintro ⟨⟨l, m⟩, i⟩ ⟨h1, h2, h3⟩
    simp only at h1 h2 h3
    have hm := h1.len
    have hle := h1.le
    simp only at hm hle
    simp (disch := first | omega | (simp only [List.length_append, List.length_cons, List.length_nil, List.length_replicate, List.length_set, List.length_take, List.length_drop, vi_len, vb_len, vo_len, vl_len, vn_len]; omega)) only [↓EC, EV, EL, E2, E3, ER, seval, ↓reduceIte, false_imp_iff, ColV_def, lheap_def]
    (refine Split.mk (fun h => ?_) (fun h => ?_) <;> (try simp only [decide_eq_true_eq, decide_eq_false_iff_not, beq_iff_eq, bne_iff_ne, beq_eq_false_iff_ne, bne_eq_false_iff_eq, Bool.not_eq_true', Bool.not_eq_false', Bool.and_eq_true, Bool.or_eq_true, Bool.and_eq_false_iff, Bool.or_eq_false_iff, Int.not_lt, Int.not_le, Bool.false_eq_true, Bool.true_eq_false, false_and, and_false, true_and, and_true, or_false, false_or, or_true, true_or, not_true_eq_false, not_false_eq_true] at h))
    · have hi : i < l.length := by omega
      have hlo := h1.lo i hi
      simp only at hlo
      have hy1 := hp.2 (gi l i).toNat (by omega)
      have hy2 := hq.2 (gi l i).toNat (by omega)
      (try simp (disch := first | omega | (simp only [List.length_append, List.length_cons, List.length_nil, List.length_replicate, List.length_set, List.length_take, List.length_drop, vi_len, vb_len, vo_len, vl_len, vn_len]; omega)) only [↓EC, EV, EL, E2, E3, ER, seval, ↓reduceIte, false_imp_iff])
      refine LP_of (σ := Sr × Nat) 200000 [(68, 29, 1), (69, 29, 1), (71, 54, 1), (97, 5, 1)] (fun s => [.own 5 1 s.1.1.length (vi .u8 s.1.1), .int .i64 s.2])
        (fun s => [vi .u8 p, vi .u8 q, vb s.1.2, vi .u8 [gi p (gi l i).toNat, gi q (gi l i).toNat]])
        (fun s => s.2 ≤ 2 ∧ s.1 = if s.2 = 0 then (l, m) else if s.2 = 1 then visit (gi p (gi l i).toNat) (l, m) else srStep p q i (l, m)) (fun s => 2 - s.2) ((l, m), 0) (by simp [frameOk, names, lpz, sclp, scv, scvs, vi_nrf, vb_nrf, vt_nrf, v2_nrf, v3_nrf, nrfs, nrf, sc_vi, sc_vb, sc_vt, sc_v2, sc_v3, sc_vo, sc_vl, vo_nrf, vl_nrf, sc_vn, vn_nrf]) ⟨Nat.zero_le 2, rfl⟩ ?_ ?_
      · simp (disch := first | omega | (simp only [List.length_append, List.length_cons, List.length_nil, List.length_replicate, List.length_set, List.length_take, List.length_drop, vi_len, vb_len, vo_len, vl_len, vn_len]; omega)) only [↓EC, EV, EL, E2, E3, ER, seval, ↓reduceIte, false_imp_iff, ColV_def]
        rfl
      · rintro ⟨s, j⟩ ⟨g1, g2⟩
        simp only at g1 g2
        have hs : SrOk s := by
          rw [g2]; split
          · exact h1
          · split
            · exact visit_ok h1 hy1
            · exact srStep_ok hp hq h1 hi
        have hil : i < s.1.length := by
          rw [g2]; split
          · exact hi
          · split
            · exact Nat.lt_of_lt_of_le hi (visit_len (s := (l, m)))
            · exact Nat.lt_of_lt_of_le hi (srStep_len (s := (l, m)))
        have hsm := hs.len
        have hsl := hs.le
        simp (disch := first | omega | (simp only [List.length_append, List.length_cons, List.length_nil, List.length_replicate, List.length_set, List.length_take, List.length_drop, vi_len, vb_len, vo_len, vl_len, vn_len]; omega)) only [↓EC, EV, EL, E2, E3, ER, seval, ↓reduceIte, false_imp_iff, ColV_def, lheap_def]
        (refine Split.mk (fun h => ?_) (fun h => ?_) <;> (try simp only [decide_eq_true_eq, decide_eq_false_iff_not, beq_iff_eq, bne_iff_ne, beq_eq_false_iff_ne, bne_eq_false_iff_eq, Bool.not_eq_true', Bool.not_eq_false', Bool.and_eq_true, Bool.or_eq_true, Bool.and_eq_false_iff, Bool.or_eq_false_iff, Int.not_lt, Int.not_le, Bool.false_eq_true, Bool.true_eq_false, false_and, and_false, true_and, and_true, or_false, false_or, or_true, true_or, not_true_eq_false, not_false_eq_true] at h))
        · have hj : j = 0 ∨ j = 1 := by omega
          rcases hj with rfl | rfl
          · (try simp (disch := first | omega | (simp only [List.length_append, List.length_cons, List.length_nil, List.length_replicate, List.length_set, List.length_take, List.length_drop, vi_len, vb_len, vo_len, vl_len, vn_len]; omega)) only [↓EC, EV, EL, E2, E3, ER, seval, ↓reduceIte, false_imp_iff, hl, hk])
            rw [if_pos rfl] at g2
            (refine Split.mk (fun h => ?_) (fun h => ?_) <;> (try simp only [decide_eq_true_eq, decide_eq_false_iff_not, beq_iff_eq, bne_iff_ne, beq_eq_false_iff_ne, bne_eq_false_iff_eq, Bool.not_eq_true', Bool.not_eq_false', Bool.and_eq_true, Bool.or_eq_true, Bool.and_eq_false_iff, Bool.or_eq_false_iff, Int.not_lt, Int.not_le, Bool.false_eq_true, Bool.true_eq_false, false_and, and_false, true_and, and_true, or_false, false_or, or_true, true_or, not_true_eq_false, not_false_eq_true] at h))
            · exact ⟨(visit (gi p (gi l i).toNat) s, 1), by rw [visit_no h]; simp, by rw [visit_no h], ⟨by simp, by rw [g2]; rfl⟩, by simp⟩
            · exact ⟨(visit (gi p (gi l i).toNat) s, 1), by rw [visit_yes h]; simp, by rw [visit_yes h], ⟨by simp, by rw [g2]; rfl⟩, by simp⟩
          · (try simp (disch := first | omega | (simp only [List.length_append, List.length_cons, List.length_nil, List.length_replicate, List.length_set, List.length_take, List.length_drop, vi_len, vb_len, vo_len, vl_len, vn_len]; omega)) only [↓EC, EV, EL, E2, E3, ER, seval, ↓reduceIte, false_imp_iff, hl, hk])
            rw [if_neg (by decide), if_pos rfl] at g2
            (refine Split.mk (fun h => ?_) (fun h => ?_) <;> (try simp only [decide_eq_true_eq, decide_eq_false_iff_not, beq_iff_eq, bne_iff_ne, beq_eq_false_iff_ne, bne_eq_false_iff_eq, Bool.not_eq_true', Bool.not_eq_false', Bool.and_eq_true, Bool.or_eq_true, Bool.and_eq_false_iff, Bool.or_eq_false_iff, Int.not_lt, Int.not_le, Bool.false_eq_true, Bool.true_eq_false, false_and, and_false, true_and, and_true, or_false, false_or, or_true, true_or, not_true_eq_false, not_false_eq_true] at h))
            · exact ⟨(visit (gi q (gi l i).toNat) s, 2), by rw [visit_no h]; simp, by rw [visit_no h], ⟨by simp, by rw [g2]; rfl⟩, by simp⟩
            · exact ⟨(visit (gi q (gi l i).toNat) s, 2), by rw [visit_yes h]; simp, by rw [visit_yes h], ⟨by simp, by rw [g2]; rfl⟩, by simp⟩
        · (try simp (disch := first | omega | (simp only [List.length_append, List.length_cons, List.length_nil, List.length_replicate, List.length_set, List.length_take, List.length_drop, vi_len, vb_len, vo_len, vl_len, vn_len]; omega)) only [↓EC, EV, EL, E2, E3, ER, seval, ↓reduceIte, false_imp_iff])
          rw [if_neg (by omega), if_neg (by omega)] at g2
          refine ⟨(s, i + 1), rfl, rfl, ⟨hs, hil, ?_⟩, by simp only; omega⟩
          rw [show 17 - i = 16 - i + 1 from by omega] at h3
          simp only [srRun, if_pos hi] at h3
          try simp only
          rw [g2, show 17 - (i + 1) = 16 - i from by omega]
          exact h3
    · (try simp (disch := first | omega | (simp only [List.length_append, List.length_cons, List.length_nil, List.length_replicate, List.length_set, List.length_take, List.length_drop, vi_len, vb_len, vo_len, vl_len, vn_len]; omega)) only [↓EC, EV, EL, E2, E3, ER, seval, ↓reduceIte, false_imp_iff])
      have : cntR p q = l.length := by
        unfold cntR
        rw [← h3, show 17 - i = 16 - i + 1 from by omega]
        simp only [srRun]
        rw [if_neg (by omega)]
      rw [this, V.bool.injEq]
      grind

noncomputable def isDB (n : Int) (b w : List Int) : Bool := isPmB b n && isPmB w n && decide ((cntR b w : Int) = n)
structure isD (n : Int) (b w : List Int) : Prop where
  pb : isPm b n
  pw : isPm w n
  cn : (cntR b w : Int) = n
theorem isDB_iff {n : Int} {b w : List Int} : isDB n b w = true ↔ isD n b w := by
  simp only [isDB, Bool.and_eq_true, isPmB_iff, decide_eq_true_eq]
  exact ⟨fun ⟨⟨h1, h2⟩, h3⟩ => ⟨h1, h2, h3⟩, fun ⟨h1, h2, h3⟩ => ⟨⟨h1, h2⟩, h3⟩⟩
theorem c_impl_IsDessin {n : Int} {b w : List Int} (hb : okP b) (hw : okP w) : PSpec Tryd.prog 33 [vD n b w] fun v => v = .bool (isDB n b w) := by
  have hl := hb.len
  have hk := hw.len
  refine impl_IsDessin_f.f ?_
  unfold vD isDB
  simp (disch := first | omega | (simp only [List.length_append, List.length_cons, List.length_nil, List.length_replicate, List.length_set, List.length_take, List.length_drop, vi_len, vb_len, vo_len, vl_len, vn_len]; omega)) only [↓EC, EV, EL, E2, E3, ER, seval, ↓reduceIte, false_imp_iff, impl_IsDessin_F, hl, hk]
  refine pcd_v (c_impl_IsPermutation hb) ?_
  (try simp (disch := first | omega | (simp only [List.length_append, List.length_cons, List.length_nil, List.length_replicate, List.length_set, List.length_take, List.length_drop, vi_len, vb_len, vo_len, vl_len, vn_len]; omega)) only [↓EC, EV, EL, E2, E3, ER, seval, ↓reduceIte, false_imp_iff, hl, hk])
  (refine Split.mk (fun h => ?_) (fun h => ?_) <;> (try simp only [decide_eq_true_eq, decide_eq_false_iff_not, beq_iff_eq, bne_iff_ne, beq_eq_false_iff_ne, bne_eq_false_iff_eq, Bool.not_eq_true', Bool.not_eq_false', Bool.and_eq_true, Bool.or_eq_true, Bool.and_eq_false_iff, Bool.or_eq_false_iff, Int.not_lt, Int.not_le, Bool.false_eq_true, Bool.true_eq_false, false_and, and_false, true_and, and_true, or_false, false_or, or_true, true_or, not_true_eq_false, not_false_eq_true] at h))
  · refine pcd_v (c_impl_IsPermutation hw) ?_
    (try simp (disch := first | omega | (simp only [List.length_append, List.length_cons, List.length_nil, List.length_replicate, List.length_set, List.length_take, List.length_drop, vi_len, vb_len, vo_len, vl_len, vn_len]; omega)) only [↓EC, EV, EL, E2, E3, ER, seval, ↓reduceIte, false_imp_iff, hl, hk])
    (refine Split.mk (fun h => ?_) (fun h => ?_) <;> (try simp only [decide_eq_true_eq, decide_eq_false_iff_not, beq_iff_eq, bne_iff_ne, beq_eq_false_iff_ne, bne_eq_false_iff_eq, Bool.not_eq_true', Bool.not_eq_false', Bool.and_eq_true, Bool.or_eq_true, Bool.and_eq_false_iff, Bool.or_eq_false_iff, Int.not_lt, Int.not_le, Bool.false_eq_true, Bool.true_eq_false, false_and, and_false, true_and, and_true, or_false, false_or, or_true, true_or, not_true_eq_false, not_false_eq_true] at h))
    · refine pcd_v (c_impl_reached ((isPmB_iff.1 (by assumption)).lo hb) ((isPmB_iff.1 (by assumption)).lo hw)) ?_
      (try simp (disch := first | omega | (simp only [List.length_append, List.length_cons, List.length_nil, List.length_replicate, List.length_set, List.length_take, List.length_drop, vi_len, vb_len, vo_len, vl_len, vn_len]; omega)) only [↓EC, EV, EL, E2, E3, ER, seval, ↓reduceIte, false_imp_iff])
      simp_all
      try grind
    · simp_all
  · simp_all
theorem c_spec_l01Is {n : Int} {b w : List Int} (hb : okP b) (hw : okP w) : PSpec Tryd.prog 35 [vD n b w] fun v => v = .bool (isDB n b w) := by
  have hl := hb.len
  have hk := hw.len
  refine spec_l01Is_f.f ?_
  unfold vD isDB
  simp (disch := first | omega | (simp only [List.length_append, List.length_cons, List.length_nil, List.length_replicate, List.length_set, List.length_take, List.length_drop, vi_len, vb_len, vo_len, vl_len, vn_len]; omega)) only [↓EC, EV, EL, E2, E3, ER, seval, ↓reduceIte, false_imp_iff, spec_l01Is_F, hl, hk]
  refine pcd_v (c_spec_l01Perm hb) ?_
  (try simp (disch := first | omega | (simp only [List.length_append, List.length_cons, List.length_nil, List.length_replicate, List.length_set, List.length_take, List.length_drop, vi_len, vb_len, vo_len, vl_len, vn_len]; omega)) only [↓EC, EV, EL, E2, E3, ER, seval, ↓reduceIte, false_imp_iff, hl, hk])
  (refine Split.mk (fun h => ?_) (fun h => ?_) <;> (try simp only [decide_eq_true_eq, decide_eq_false_iff_not, beq_iff_eq, bne_iff_ne, beq_eq_false_iff_ne, bne_eq_false_iff_eq, Bool.not_eq_true', Bool.not_eq_false', Bool.and_eq_true, Bool.or_eq_true, Bool.and_eq_false_iff, Bool.or_eq_false_iff, Int.not_lt, Int.not_le, Bool.false_eq_true, Bool.true_eq_false, false_and, and_false, true_and, and_true, or_false, false_or, or_true, true_or, not_true_eq_false, not_false_eq_true] at h))
  · refine pcd_v (c_spec_l01Perm hw) ?_
    (try simp (disch := first | omega | (simp only [List.length_append, List.length_cons, List.length_nil, List.length_replicate, List.length_set, List.length_take, List.length_drop, vi_len, vb_len, vo_len, vl_len, vn_len]; omega)) only [↓EC, EV, EL, E2, E3, ER, seval, ↓reduceIte, false_imp_iff, hl, hk])
    (refine Split.mk (fun h => ?_) (fun h => ?_) <;> (try simp only [decide_eq_true_eq, decide_eq_false_iff_not, beq_iff_eq, bne_iff_ne, beq_eq_false_iff_ne, bne_eq_false_iff_eq, Bool.not_eq_true', Bool.not_eq_false', Bool.and_eq_true, Bool.or_eq_true, Bool.and_eq_false_iff, Bool.or_eq_false_iff, Int.not_lt, Int.not_le, Bool.false_eq_true, Bool.true_eq_false, false_and, and_false, true_and, and_true, or_false, false_or, or_true, true_or, not_true_eq_false, not_false_eq_true] at h))
    · refine pcd_v (c_spec_l01Connected ((isPmB_iff.1 (by assumption)).lo hb) ((isPmB_iff.1 (by assumption)).lo hw)) ?_
      (try simp (disch := first | omega | (simp only [List.length_append, List.length_cons, List.length_nil, List.length_replicate, List.length_set, List.length_take, List.length_drop, vi_len, vb_len, vo_len, vl_len, vn_len]; omega)) only [↓EC, EV, EL, E2, E3, ER, seval, ↓reduceIte, false_imp_iff])
      simp_all
      try grind
    · simp_all
  · simp_all

/-! ### What comes in -/
theorem fits_places (x : List V) (h : Ty.fits (.arr 16 (.int .u8)) x) : ∃ p : List Int, x = vi .u8 p ∧ okP p := by
  simp only [Ty.fits] at h
  obtain ⟨xs, h1, rfl, h2⟩ := h
  obtain ⟨l, rfl, h3⟩ := fits_list fits_int h2
  rw [flat_vi]
  refine ⟨l, rfl, by simpa using h1, fun i hi => ?_⟩
  have hl : i < l.length := by rw [List.length_map] at h1; omega
  rw [gi_of hl]
  exact h3 _ (List.getElem_mem hl)
abbrev tyD : Ty := .st [.int .i64, .arr 16 (.int .u8), .arr 16 (.int .u8)]
theorem ok_dessin {v : V} (h : Ty.ok tyD v) : ∃ n b w, v = vD n b w ∧ okP b ∧ okP w ∧ IntKind.i64.min ≤ n ∧ n ≤ IntKind.i64.max := by
  simp only [Ty.ok, Ty.isAgg, if_true, Ty.fits, Ty.fitss] at h
  obtain ⟨l, rfl, _, _, rfl, ⟨n, rfl, hn⟩, x, _, rfl, hx, y, _, rfl, hy, rfl⟩ := h
  obtain ⟨b, rfl, hb⟩ := fits_places x (by simpa only [Ty.fits] using hx)
  obtain ⟨w, rfl, hw⟩ := fits_places y (by simpa only [Ty.fits] using hy)
  exact ⟨n, b, w, by unfold vD; rw [← vi_app]; simp, hb, hw, hn⟩
end Go.Proofs.YtjklebickfcddaaDoor.Sep
