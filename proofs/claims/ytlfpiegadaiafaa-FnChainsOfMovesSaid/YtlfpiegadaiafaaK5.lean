/- Texts put together: C13, C18, C19, C60, C61, C62, C63, C64, C65, C66, C67, C68, C80. -/
import Derived.Test.YtlfpiegadaiafaaK4
section
/- What the functions on rows of moves and fractions compute. -/
namespace Go.Proofs.Ytlfpiegadaiafaa.Sep
open Go.RowKit
set_option linter.unusedVariables false
set_option linter.unusedSimpArgs false
set_option maxRecDepth 20000

def szV0 (x : Int) (n : Nat) : Int := if x - n < 0 then -1 else x - n
def isMv (a : Int × Int × Int) : Bool := isMoveB a.1 a.2.1 a.2.2
def isF (a : Int × Int) : Bool := isFr a.1 a.2
def cmpF (a b : Int × Int) : Int := cmpFr a.1 a.2 b.1 b.2


/-! ### Moves in a row -/
def movesC (l : List (Int × Int × Int)) : Int := if l.all isMv = true then (if l.length > 20 then 2 else 0) else 1
theorem not_all_mv {l : List (Int × Int × Int)} {i : Nat} (hi : i < l.length) (h : isMv (g3 l i) = false) : ¬ l.all isMv = true := by
  intro ha
  have := all_getD (d := (0, 0, 0)).1 ha i hi
  unfold g3 at h
  rw [h] at this
  cases this
theorem c_impl_movesCode {l : List (Int × Int × Int)} (hl : l.length ≤ 1048576) : PSpec Try.prog 73 [.sl l.length (v3 .i64 l)] fun v => v = .int .i64 (movesC l) := by
  refine impl_movesCode_f.f ?_
  simp (disch := first | omega | (simp only [LN]; omega)) only [↓EC, EW, seval, ↓reduceIte, false_imp_iff, impl_movesCode_F]
  refine LP_of (σ := Nat) 100000 [] (fun s => [.int .i64 s]) (fun s => [])
    (fun s => s ≤ l.length ∧ ∀ j, j < s → isMv (g3 l j) = true) (fun s => l.length - s) 0 (by simp [frameOk, names, lpz, sclp, scv, scvs, vi_nrf, vb_nrf, vt_nrf, v2_nrf, v3_nrf, nrfs, nrf, sc_vi, sc_vb, sc_vt, sc_v2, sc_v3, sc_vo, sc_vl, vo_nrf, vl_nrf, sc_vn, vn_nrf]) ⟨Nat.zero_le _, fun j hj => absurd hj (Nat.not_lt_zero j)⟩ ?_ ?_
  · simp (disch := first | omega | (simp only [LN]; omega)) only [↓EC, EW, seval, ↓reduceIte, false_imp_iff, ColV_def]
  · rintro i ⟨h1, h2⟩
    simp (disch := first | omega | (simp only [LN]; omega)) only [↓EC, EW, seval, ↓reduceIte, false_imp_iff, ColV_def, lheap_def]
    (refine Split.mk (fun h => ?_) (fun h => ?_) <;> (try simp only [decide_eq_true_eq, decide_eq_false_iff_not, beq_iff_eq, bne_iff_ne, beq_eq_false_iff_ne, bne_eq_false_iff_eq, Bool.not_eq_true', Bool.not_eq_false', Bool.and_eq_true, Bool.or_eq_true, Bool.and_eq_false_iff, Bool.or_eq_false_iff, Int.not_lt, Int.not_le, Bool.false_eq_true, Bool.true_eq_false, false_and, and_false, true_and, and_true, or_false, false_or, or_true, true_or, not_true_eq_false, not_false_eq_true] at h))
    · (try simp (disch := first | omega | (simp only [LN]; omega)) only [↓EC, EW, seval, ↓reduceIte, false_imp_iff])
      (refine pcd_v (c_impl_IsMove) ?_; (try simp (disch := first | omega | (simp only [LN]; omega)) only [↓EC, EW, seval, ↓reduceIte, false_imp_iff]))
      (refine Split.mk (fun h => ?_) (fun h => ?_) <;> (try simp only [decide_eq_true_eq, decide_eq_false_iff_not, beq_iff_eq, bne_iff_ne, beq_eq_false_iff_ne, bne_eq_false_iff_eq, Bool.not_eq_true', Bool.not_eq_false', Bool.and_eq_true, Bool.or_eq_true, Bool.and_eq_false_iff, Bool.or_eq_false_iff, Int.not_lt, Int.not_le, Bool.false_eq_true, Bool.true_eq_false, false_and, and_false, true_and, and_true, or_false, false_or, or_true, true_or, not_true_eq_false, not_false_eq_true] at h))
      · (try simp (disch := first | omega | (simp only [LN]; omega)) only [↓EC, EW, seval, ↓reduceIte, false_imp_iff])
        unfold movesC
        rw [if_neg (not_all_mv (by omega) h)]
      · (try simp (disch := first | omega | (simp only [LN]; omega)) only [↓EC, EW, seval, ↓reduceIte, false_imp_iff])
        refine ⟨i + 1, rfl, ⟨by omega, fun j hj => ?_⟩, by omega⟩
        by_cases e : j = i
        · subst e; exact h
        · exact h2 j (by omega)
    · have ha : l.all isMv = true := all_getD.2 fun j hj => h2 j (by omega)
      (refine Split.mk (fun h => ?_) (fun h => ?_) <;> (try simp only [decide_eq_true_eq, decide_eq_false_iff_not, beq_iff_eq, bne_iff_ne, beq_eq_false_iff_ne, bne_eq_false_iff_eq, Bool.not_eq_true', Bool.not_eq_false', Bool.and_eq_true, Bool.or_eq_true, Bool.and_eq_false_iff, Bool.or_eq_false_iff, Int.not_lt, Int.not_le, Bool.false_eq_true, Bool.true_eq_false, false_and, and_false, true_and, and_true, or_false, false_or, or_true, true_or, not_true_eq_false, not_false_eq_true] at h))
      · unfold movesC; rw [if_pos ha, if_pos (by omega)]
      · unfold movesC; rw [if_pos ha, if_neg (by omega)]
theorem c_spec_l10Moves {l : List (Int × Int × Int)} (hl : l.length ≤ 1048576) : PSpec Try.prog 74 [.sl l.length (v3 .i64 l)] fun v => v = .int .i64 (movesC l) := by
  refine spec_l10Moves_f.f ?_
  simp (disch := first | omega | (simp only [LN]; omega)) only [↓EC, EW, seval, ↓reduceIte, false_imp_iff, spec_l10Moves_F]
  refine LP_of (σ := Nat) 100000 [] (fun s => [.int .i64 s]) (fun s => [])
    (fun s => s ≤ l.length ∧ ∀ j, j < s → isMv (g3 l j) = true) (fun s => l.length - s) 0 (by simp [frameOk, names, lpz, sclp, scv, scvs, vi_nrf, vb_nrf, vt_nrf, v2_nrf, v3_nrf, nrfs, nrf, sc_vi, sc_vb, sc_vt, sc_v2, sc_v3, sc_vo, sc_vl, vo_nrf, vl_nrf, sc_vn, vn_nrf]) ⟨Nat.zero_le _, fun j hj => absurd hj (Nat.not_lt_zero j)⟩ ?_ ?_
  · simp (disch := first | omega | (simp only [LN]; omega)) only [↓EC, EW, seval, ↓reduceIte, false_imp_iff, ColV_def]
  · rintro i ⟨h1, h2⟩
    simp (disch := first | omega | (simp only [LN]; omega)) only [↓EC, EW, seval, ↓reduceIte, false_imp_iff, ColV_def, lheap_def]
    (refine Split.mk (fun h => ?_) (fun h => ?_) <;> (try simp only [decide_eq_true_eq, decide_eq_false_iff_not, beq_iff_eq, bne_iff_ne, beq_eq_false_iff_ne, bne_eq_false_iff_eq, Bool.not_eq_true', Bool.not_eq_false', Bool.and_eq_true, Bool.or_eq_true, Bool.and_eq_false_iff, Bool.or_eq_false_iff, Int.not_lt, Int.not_le, Bool.false_eq_true, Bool.true_eq_false, false_and, and_false, true_and, and_true, or_false, false_or, or_true, true_or, not_true_eq_false, not_false_eq_true] at h))
    · (try simp (disch := first | omega | (simp only [LN]; omega)) only [↓EC, EW, seval, ↓reduceIte, false_imp_iff])
      (refine pcd_v (c_spec_l10Move) ?_; (try simp (disch := first | omega | (simp only [LN]; omega)) only [↓EC, EW, seval, ↓reduceIte, false_imp_iff]))
      (refine Split.mk (fun h => ?_) (fun h => ?_) <;> (try simp only [decide_eq_true_eq, decide_eq_false_iff_not, beq_iff_eq, bne_iff_ne, beq_eq_false_iff_ne, bne_eq_false_iff_eq, Bool.not_eq_true', Bool.not_eq_false', Bool.and_eq_true, Bool.or_eq_true, Bool.and_eq_false_iff, Bool.or_eq_false_iff, Int.not_lt, Int.not_le, Bool.false_eq_true, Bool.true_eq_false, false_and, and_false, true_and, and_true, or_false, false_or, or_true, true_or, not_true_eq_false, not_false_eq_true] at h))
      · (try simp (disch := first | omega | (simp only [LN]; omega)) only [↓EC, EW, seval, ↓reduceIte, false_imp_iff])
        unfold movesC
        rw [if_neg (not_all_mv (by omega) h)]
      · (try simp (disch := first | omega | (simp only [LN]; omega)) only [↓EC, EW, seval, ↓reduceIte, false_imp_iff])
        refine ⟨i + 1, rfl, ⟨by omega, fun j hj => ?_⟩, by omega⟩
        by_cases e : j = i
        · subst e; exact h
        · exact h2 j (by omega)
    · have ha : l.all isMv = true := all_getD.2 fun j hj => h2 j (by omega)
      (refine Split.mk (fun h => ?_) (fun h => ?_) <;> (try simp only [decide_eq_true_eq, decide_eq_false_iff_not, beq_iff_eq, bne_iff_ne, beq_eq_false_iff_ne, bne_eq_false_iff_eq, Bool.not_eq_true', Bool.not_eq_false', Bool.and_eq_true, Bool.or_eq_true, Bool.and_eq_false_iff, Bool.or_eq_false_iff, Int.not_lt, Int.not_le, Bool.false_eq_true, Bool.true_eq_false, false_and, and_false, true_and, and_true, or_false, false_or, or_true, true_or, not_true_eq_false, not_false_eq_true] at h))
      · unfold movesC; rw [if_pos ha, if_pos (by omega)]
      · unfold movesC; rw [if_pos ha, if_neg (by omega)]

def degM (a : Int × Int × Int) : Int := if 1 < a.2.1 + a.2.2 then a.2.1 + a.2.2 else 1
theorem degM_lim {a : Int × Int × Int} (h : isMv a = true) : 1 ≤ degM a ∧ degM a ≤ 40 := by
  simp only [isMv, isMoveB, decide_eq_true_eq] at h
  unfold degM; split <;> omega
theorem c_impl_degree {a b c : Int} (h : isMv (a, b, c) = true) : PSpec Try.prog 58 [.agg [.int .i64 a, .int .i64 b, .int .i64 c]] fun v => v = .int .i64 (degM (a, b, c)) := by
  simp only [isMv, isMoveB, decide_eq_true_eq] at h
  refine impl_degree_f.f ?_
  simp (disch := first | omega | (simp only [LN]; omega)) only [↓EC, EW, seval, ↓reduceIte, false_imp_iff, impl_degree_F]
  congr 1
  unfold degM; simp only; split <;> split <;> omega
theorem c_spec_l10Degree {a b c : Int} (h : isMv (a, b, c) = true) : PSpec Try.prog 61 [.agg [.int .i64 a, .int .i64 b, .int .i64 c]] fun v => v = .int .i64 (degM (a, b, c)) := by
  simp only [isMv, isMoveB, decide_eq_true_eq] at h
  refine spec_l10Degree_f.f ?_
  simp (disch := first | omega | (simp only [LN]; omega)) only [↓EC, EW, seval, ↓reduceIte, false_imp_iff, spec_l10Degree_F]
  rfl
/-- The product of the degrees, if it does not leave the limit. -/
def degL : List (Int × Int × Int) → Int → Option Int
  | [], p => some p
  | a :: l, p => if 1000000000 < p * degM a then none else degL l (p * degM a)
def degV (l : List (Int × Int × Int)) : Int := if movesC l = 0 then (degL l 1).getD 0 else 0
def degC (l : List (Int × Int × Int)) : Int := if movesC l = 0 then (if (degL l 1).isSome = true then 0 else 3) else movesC l
theorem movesC_mv {l : List (Int × Int × Int)} (h : movesC l = 0) {i : Nat} (hi : i < l.length) : isMv (g3 l i) = true := by
  unfold movesC at h
  by_cases ha : l.all isMv = true
  · exact all_getD.1 ha i hi
  · rw [if_neg ha] at h; omega
theorem degL_drop {l : List (Int × Int × Int)} {i : Nat} (hi : i < l.length) (p : Int) : degL (l.drop i) p = if 1000000000 < p * degM (g3 l i) then none else degL (l.drop (i + 1)) (p * degM (g3 l i)) := by
  rw [drop_getD (d := (0, 0, 0)) hi]; rfl
theorem c_impl_DegreeOfMoves {l : List (Int × Int × Int)} (hl : l.length ≤ 1048576) : PSpec Try.prog 39 [.sl l.length (v3 .i64 l)] fun v => v = .tup [.int .i64 (degV l), .int .i64 (degC l)] := by
  refine impl_DegreeOfMoves_f.f ?_
  simp (disch := first | omega | (simp only [LN]; omega)) only [↓EC, EW, seval, ↓reduceIte, false_imp_iff, impl_DegreeOfMoves_F]
  (refine pcd_v (c_impl_movesCode hl) ?_; (try simp (disch := first | omega | (simp only [LN]; omega)) only [↓EC, EW, seval, ↓reduceIte, false_imp_iff]))
  (refine Split.mk (fun h => ?_) (fun h => ?_) <;> (try simp only [decide_eq_true_eq, decide_eq_false_iff_not, beq_iff_eq, bne_iff_ne, beq_eq_false_iff_ne, bne_eq_false_iff_eq, Bool.not_eq_true', Bool.not_eq_false', Bool.and_eq_true, Bool.or_eq_true, Bool.and_eq_false_iff, Bool.or_eq_false_iff, Int.not_lt, Int.not_le, Bool.false_eq_true, Bool.true_eq_false, false_and, and_false, true_and, and_true, or_false, false_or, or_true, true_or, not_true_eq_false, not_false_eq_true] at h))
  · unfold degV degC; rw [if_neg h, if_neg h]
  · refine LP_of (σ := Int × Nat) 100000 [] (fun s => [.int .i64 s.1, .int .i64 s.2]) (fun s => [])
      (fun s => s.2 ≤ l.length ∧ degL (l.drop s.2) s.1 = degL l 1 ∧ 1 ≤ s.1 ∧ s.1 ≤ 1000000000) (fun s => l.length - s.2) (1, 0) (by simp [frameOk, names, lpz, sclp, scv, scvs, vi_nrf, vb_nrf, vt_nrf, v2_nrf, v3_nrf, nrfs, nrf, sc_vi, sc_vb, sc_vt, sc_v2, sc_v3, sc_vo, sc_vl, vo_nrf, vl_nrf, sc_vn, vn_nrf]) ⟨Nat.zero_le _, rfl, by decide, by decide⟩ ?_ ?_
    · simp (disch := first | omega | (simp only [LN]; omega)) only [↓EC, EW, seval, ↓reduceIte, false_imp_iff, ColV_def]
    · rintro ⟨p, i⟩ ⟨h1, h2, h3, h4⟩
      simp only at h1 h2 h3 h4
      simp (disch := first | omega | (simp only [LN]; omega)) only [↓EC, EW, seval, ↓reduceIte, false_imp_iff, ColV_def, lheap_def]
      (refine Split.mk (fun h => ?_) (fun h => ?_) <;> (try simp only [decide_eq_true_eq, decide_eq_false_iff_not, beq_iff_eq, bne_iff_ne, beq_eq_false_iff_ne, bne_eq_false_iff_eq, Bool.not_eq_true', Bool.not_eq_false', Bool.and_eq_true, Bool.or_eq_true, Bool.and_eq_false_iff, Bool.or_eq_false_iff, Int.not_lt, Int.not_le, Bool.false_eq_true, Bool.true_eq_false, false_and, and_false, true_and, and_true, or_false, false_or, or_true, true_or, not_true_eq_false, not_false_eq_true] at h))
      · (try simp (disch := first | omega | (simp only [LN]; omega)) only [↓EC, EW, seval, ↓reduceIte, false_imp_iff])
        have hm := movesC_mv (by assumption) (i := i) (by omega)
        have hd := degM_lim hm
        have hw := mul_lim (x := p) (y := degM (g3 l i)) 1000000000 40 (by omega) (by omega)
        have hp : 1 ≤ p * degM (g3 l i) := Int.mul_pos (by omega) (by omega)
        refine pcd_v (c_impl_degree hm) ?_
        (try simp (disch := first | omega | (simp only [LN]; omega)) only [↓EC, EW, seval, ↓reduceIte, false_imp_iff])
        rw [degL_drop (by omega)] at h2
        (refine Split.mk (fun h => ?_) (fun h => ?_) <;> (try simp only [decide_eq_true_eq, decide_eq_false_iff_not, beq_iff_eq, bne_iff_ne, beq_eq_false_iff_ne, bne_eq_false_iff_eq, Bool.not_eq_true', Bool.not_eq_false', Bool.and_eq_true, Bool.or_eq_true, Bool.and_eq_false_iff, Bool.or_eq_false_iff, Int.not_lt, Int.not_le, Bool.false_eq_true, Bool.true_eq_false, false_and, and_false, true_and, and_true, or_false, false_or, or_true, true_or, not_true_eq_false, not_false_eq_true] at h))
        · rw [if_pos h] at h2
          unfold degV degC; rw [if_pos (by assumption), if_pos (by assumption), ← h2]; rfl
        · rw [if_neg (by omega)] at h2
          exact ⟨(_, i + 1), rfl, ⟨by omega, h2, hp, h⟩, by simp only; omega⟩
      · rw [List.drop_of_length_le (by omega)] at h2
        unfold degV degC; rw [if_pos (by assumption), if_pos (by assumption), ← h2]; rfl
theorem c_spec_DegreeOfMoves {l : List (Int × Int × Int)} (hl : l.length ≤ 1048576) : PSpec Try.prog 40 [.sl l.length (v3 .i64 l)] fun v => v = .tup [.int .i64 (degV l), .int .i64 (degC l)] := by
  refine spec_DegreeOfMoves_f.f ?_
  simp (disch := first | omega | (simp only [LN]; omega)) only [↓EC, EW, seval, ↓reduceIte, false_imp_iff, spec_DegreeOfMoves_F]
  (refine pcd_v (c_spec_l10Moves hl) ?_; (try simp (disch := first | omega | (simp only [LN]; omega)) only [↓EC, EW, seval, ↓reduceIte, false_imp_iff]))
  (refine Split.mk (fun h => ?_) (fun h => ?_) <;> (try simp only [decide_eq_true_eq, decide_eq_false_iff_not, beq_iff_eq, bne_iff_ne, beq_eq_false_iff_ne, bne_eq_false_iff_eq, Bool.not_eq_true', Bool.not_eq_false', Bool.and_eq_true, Bool.or_eq_true, Bool.and_eq_false_iff, Bool.or_eq_false_iff, Int.not_lt, Int.not_le, Bool.false_eq_true, Bool.true_eq_false, false_and, and_false, true_and, and_true, or_false, false_or, or_true, true_or, not_true_eq_false, not_false_eq_true] at h))
  · unfold degV degC; rw [if_neg h, if_neg h]
  · refine LP_of (σ := Int × Nat) 100000 [] (fun s => [.int .i64 s.1, .int .i64 s.2]) (fun s => [])
      (fun s => s.2 ≤ l.length ∧ degL (l.drop s.2) s.1 = degL l 1 ∧ 1 ≤ s.1 ∧ s.1 ≤ 1000000000) (fun s => l.length - s.2) (1, 0) (by simp [frameOk, names, lpz, sclp, scv, scvs, vi_nrf, vb_nrf, vt_nrf, v2_nrf, v3_nrf, nrfs, nrf, sc_vi, sc_vb, sc_vt, sc_v2, sc_v3, sc_vo, sc_vl, vo_nrf, vl_nrf, sc_vn, vn_nrf]) ⟨Nat.zero_le _, rfl, by decide, by decide⟩ ?_ ?_
    · simp (disch := first | omega | (simp only [LN]; omega)) only [↓EC, EW, seval, ↓reduceIte, false_imp_iff, ColV_def]
    · rintro ⟨p, i⟩ ⟨h1, h2, h3, h4⟩
      simp only at h1 h2 h3 h4
      simp (disch := first | omega | (simp only [LN]; omega)) only [↓EC, EW, seval, ↓reduceIte, false_imp_iff, ColV_def, lheap_def]
      (refine Split.mk (fun h => ?_) (fun h => ?_) <;> (try simp only [decide_eq_true_eq, decide_eq_false_iff_not, beq_iff_eq, bne_iff_ne, beq_eq_false_iff_ne, bne_eq_false_iff_eq, Bool.not_eq_true', Bool.not_eq_false', Bool.and_eq_true, Bool.or_eq_true, Bool.and_eq_false_iff, Bool.or_eq_false_iff, Int.not_lt, Int.not_le, Bool.false_eq_true, Bool.true_eq_false, false_and, and_false, true_and, and_true, or_false, false_or, or_true, true_or, not_true_eq_false, not_false_eq_true] at h))
      · (try simp (disch := first | omega | (simp only [LN]; omega)) only [↓EC, EW, seval, ↓reduceIte, false_imp_iff])
        have hm := movesC_mv (by assumption) (i := i) (by omega)
        have hd := degM_lim hm
        have hw := mul_lim (x := p) (y := degM (g3 l i)) 1000000000 40 (by omega) (by omega)
        have hp : 1 ≤ p * degM (g3 l i) := Int.mul_pos (by omega) (by omega)
        refine pcd_v (c_spec_l10Degree hm) ?_
        (try simp (disch := first | omega | (simp only [LN]; omega)) only [↓EC, EW, seval, ↓reduceIte, false_imp_iff])
        rw [degL_drop (by omega)] at h2
        (refine Split.mk (fun h => ?_) (fun h => ?_) <;> (try simp only [decide_eq_true_eq, decide_eq_false_iff_not, beq_iff_eq, bne_iff_ne, beq_eq_false_iff_ne, bne_eq_false_iff_eq, Bool.not_eq_true', Bool.not_eq_false', Bool.and_eq_true, Bool.or_eq_true, Bool.and_eq_false_iff, Bool.or_eq_false_iff, Int.not_lt, Int.not_le, Bool.false_eq_true, Bool.true_eq_false, false_and, and_false, true_and, and_true, or_false, false_or, or_true, true_or, not_true_eq_false, not_false_eq_true] at h))
        · rw [if_pos h] at h2
          unfold degV degC; rw [if_pos (by assumption), if_pos (by assumption), ← h2]; rfl
        · rw [if_neg (by omega)] at h2
          exact ⟨(_, i + 1), rfl, ⟨by omega, h2, hp, h⟩, by simp only; omega⟩
      · rw [List.drop_of_length_le (by omega)] at h2
        unfold degV degC; rw [if_pos (by assumption), if_pos (by assumption), ← h2]; rfl

/-! ### Sets -/
def setB (l : List (Int × Int)) : Bool := decide (∀ i, i < l.length → isF (g2 l i) = true ∧ (0 < i → cmpF (g2 l (i - 1)) (g2 l i) < 0)) && decide (l.length ≤ 12)
theorem not_setB {l : List (Int × Int)} {i : Nat} (hi : i < l.length) (h : ¬ (isF (g2 l i) = true ∧ (0 < i → cmpF (g2 l (i - 1)) (g2 l i) < 0))) : setB l = false := by
  unfold setB
  rw [Bool.and_eq_false_iff]
  left
  rw [decide_eq_false_iff_not]
  exact fun ha => h (ha i hi)
theorem setB_of {l : List (Int × Int)} (h : ∀ i, i < l.length → isF (g2 l i) = true ∧ (0 < i → cmpF (g2 l (i - 1)) (g2 l i) < 0)) : setB l = decide (l.length ≤ 12) := by
  unfold setB
  rw [decide_eq_true h, Bool.true_and]
theorem isF_at {l : List (Int × Int)} {i : Nat} (h : isFr (g2 l i).1 (g2 l i).2 = true) : isF (g2 l i) = true := h
theorem toNat_pred {i : Nat} (h : 0 < i) : ((i : Int) - 1).toNat = i - 1 := by omega
theorem c_spec_l10Set {l : List (Int × Int)} (hl : l.length ≤ 1048576) : PSpec Try.prog 67 [.sl l.length (v2 .i64 l)] fun v => v = .bool (setB l) := by
  refine spec_l10Set_f.f ?_
  simp (disch := first | omega | (simp only [LN]; omega)) only [↓EC, EW, seval, ↓reduceIte, false_imp_iff, spec_l10Set_F]
  refine LP_of (σ := Nat) 100000 [] (fun s => [.int .i64 s]) (fun s => [])
    (fun s => s ≤ l.length ∧ ∀ i, i < s → isF (g2 l i) = true ∧ (0 < i → cmpF (g2 l (i - 1)) (g2 l i) < 0)) (fun s => l.length - s) 0 (by simp [frameOk, names, lpz, sclp, scv, scvs, vi_nrf, vb_nrf, vt_nrf, v2_nrf, v3_nrf, nrfs, nrf, sc_vi, sc_vb, sc_vt, sc_v2, sc_v3, sc_vo, sc_vl, vo_nrf, vl_nrf, sc_vn, vn_nrf]) ⟨Nat.zero_le _, fun j hj => absurd hj (Nat.not_lt_zero j)⟩ ?_ ?_
  · simp (disch := first | omega | (simp only [LN]; omega)) only [↓EC, EW, seval, ↓reduceIte, false_imp_iff, ColV_def]
  · rintro i ⟨h1, h2⟩
    simp (disch := first | omega | (simp only [LN]; omega)) only [↓EC, EW, seval, ↓reduceIte, false_imp_iff, ColV_def, lheap_def]
    (refine Split.mk (fun h => ?_) (fun h => ?_) <;> (try simp only [decide_eq_true_eq, decide_eq_false_iff_not, beq_iff_eq, bne_iff_ne, beq_eq_false_iff_ne, bne_eq_false_iff_eq, Bool.not_eq_true', Bool.not_eq_false', Bool.and_eq_true, Bool.or_eq_true, Bool.and_eq_false_iff, Bool.or_eq_false_iff, Int.not_lt, Int.not_le, Bool.false_eq_true, Bool.true_eq_false, false_and, and_false, true_and, and_true, or_false, false_or, or_true, true_or, not_true_eq_false, not_false_eq_true] at h))
    · (try simp (disch := first | omega | (simp only [LN]; omega)) only [↓EC, EW, seval, ↓reduceIte, false_imp_iff])
      (refine pcd_v (c_spec_l10Is) ?_; (try simp (disch := first | omega | (simp only [LN]; omega)) only [↓EC, EW, seval, ↓reduceIte, false_imp_iff]))
      (refine Split.mk (fun h => ?_) (fun h => ?_) <;> (try simp only [decide_eq_true_eq, decide_eq_false_iff_not, beq_iff_eq, bne_iff_ne, beq_eq_false_iff_ne, bne_eq_false_iff_eq, Bool.not_eq_true', Bool.not_eq_false', Bool.and_eq_true, Bool.or_eq_true, Bool.and_eq_false_iff, Bool.or_eq_false_iff, Int.not_lt, Int.not_le, Bool.false_eq_true, Bool.true_eq_false, false_and, and_false, true_and, and_true, or_false, false_or, or_true, true_or, not_true_eq_false, not_false_eq_true] at h))
      · (try simp (disch := first | omega | (simp only [LN]; omega)) only [↓EC, EW, seval, ↓reduceIte, false_imp_iff])
        rw [not_setB (i := i) (by omega) (fun hh => by rw [isF, h] at hh; cases hh.1)]
      · have hf := isF_at h
        (refine Split.mk (fun h => ?_) (fun h => ?_) <;> (try simp only [decide_eq_true_eq, decide_eq_false_iff_not, beq_iff_eq, bne_iff_ne, beq_eq_false_iff_ne, bne_eq_false_iff_eq, Bool.not_eq_true', Bool.not_eq_false', Bool.and_eq_true, Bool.or_eq_true, Bool.and_eq_false_iff, Bool.or_eq_false_iff, Int.not_lt, Int.not_le, Bool.false_eq_true, Bool.true_eq_false, false_and, and_false, true_and, and_true, or_false, false_or, or_true, true_or, not_true_eq_false, not_false_eq_true] at h))
        · (try simp (disch := first | omega | (simp only [LN]; omega)) only [↓EC, EW, seval, ↓reduceIte, false_imp_iff, toNat_pred])
          have hp := (h2 (i - 1) (by omega)).1
          refine pcd_v (c_spec_l10Compare hp hf) ?_
          (try simp (disch := first | omega | (simp only [LN]; omega)) only [↓EC, EW, seval, ↓reduceIte, false_imp_iff])
          (refine Split.mk (fun h => ?_) (fun h => ?_) <;> (try simp only [decide_eq_true_eq, decide_eq_false_iff_not, beq_iff_eq, bne_iff_ne, beq_eq_false_iff_ne, bne_eq_false_iff_eq, Bool.not_eq_true', Bool.not_eq_false', Bool.and_eq_true, Bool.or_eq_true, Bool.and_eq_false_iff, Bool.or_eq_false_iff, Int.not_lt, Int.not_le, Bool.false_eq_true, Bool.true_eq_false, false_and, and_false, true_and, and_true, or_false, false_or, or_true, true_or, not_true_eq_false, not_false_eq_true] at h))
          · (try simp (disch := first | omega | (simp only [LN]; omega)) only [↓EC, EW, seval, ↓reduceIte, false_imp_iff])
            rw [not_setB (i := i) (by omega) (fun hh => absurd (hh.2 (by omega)) (by unfold cmpF; omega))]
          · (try simp (disch := first | omega | (simp only [LN]; omega)) only [↓EC, EW, seval, ↓reduceIte, false_imp_iff])
            refine ⟨i + 1, rfl, ⟨by omega, fun j hj => ?_⟩, by omega⟩
            by_cases e : j = i
            · subst e; exact ⟨hf, fun _ => h⟩
            · exact h2 j (by omega)
        · (try simp (disch := first | omega | (simp only [LN]; omega)) only [↓EC, EW, seval, ↓reduceIte, false_imp_iff])
          refine ⟨i + 1, rfl, ⟨by omega, fun j hj => ?_⟩, by omega⟩
          by_cases e : j = i
          · subst e; exact ⟨hf, fun _ => by omega⟩
          · exact h2 j (by omega)
    · (try simp (disch := first | omega | (simp only [LN]; omega)) only [↓EC, EW, seval, ↓reduceIte, false_imp_iff])
      rw [setB_of fun j hj => h2 j (by omega)]
      congr 1
      exact decide_eq_decide.2 (by omega)
theorem c_impl_IsSet {l : List (Int × Int)} (hl : l.length ≤ 1048576) : PSpec Try.prog 29 [.sl l.length (v2 .i64 l)] fun v => v = .bool (setB l) := by
  refine impl_IsSet_f.f ?_
  simp (disch := first | omega | (simp only [LN]; omega)) only [↓EC, EW, seval, ↓reduceIte, false_imp_iff, impl_IsSet_F]
  refine LP_of (σ := Nat) 100000 [] (fun s => [.int .i64 s]) (fun s => [])
    (fun s => s ≤ l.length ∧ ∀ i, i < s → isF (g2 l i) = true ∧ (0 < i → cmpF (g2 l (i - 1)) (g2 l i) < 0)) (fun s => l.length - s) 0 (by simp [frameOk, names, lpz, sclp, scv, scvs, vi_nrf, vb_nrf, vt_nrf, v2_nrf, v3_nrf, nrfs, nrf, sc_vi, sc_vb, sc_vt, sc_v2, sc_v3, sc_vo, sc_vl, vo_nrf, vl_nrf, sc_vn, vn_nrf]) ⟨Nat.zero_le _, fun j hj => absurd hj (Nat.not_lt_zero j)⟩ ?_ ?_
  · simp (disch := first | omega | (simp only [LN]; omega)) only [↓EC, EW, seval, ↓reduceIte, false_imp_iff, ColV_def]
  · rintro i ⟨h1, h2⟩
    simp (disch := first | omega | (simp only [LN]; omega)) only [↓EC, EW, seval, ↓reduceIte, false_imp_iff, ColV_def, lheap_def]
    (refine Split.mk (fun h => ?_) (fun h => ?_) <;> (try simp only [decide_eq_true_eq, decide_eq_false_iff_not, beq_iff_eq, bne_iff_ne, beq_eq_false_iff_ne, bne_eq_false_iff_eq, Bool.not_eq_true', Bool.not_eq_false', Bool.and_eq_true, Bool.or_eq_true, Bool.and_eq_false_iff, Bool.or_eq_false_iff, Int.not_lt, Int.not_le, Bool.false_eq_true, Bool.true_eq_false, false_and, and_false, true_and, and_true, or_false, false_or, or_true, true_or, not_true_eq_false, not_false_eq_true] at h))
    · (try simp (disch := first | omega | (simp only [LN]; omega)) only [↓EC, EW, seval, ↓reduceIte, false_imp_iff])
      (refine pcd_v (c_impl_IsFraction) ?_; (try simp (disch := first | omega | (simp only [LN]; omega)) only [↓EC, EW, seval, ↓reduceIte, false_imp_iff]))
      (refine Split.mk (fun h => ?_) (fun h => ?_) <;> (try simp only [decide_eq_true_eq, decide_eq_false_iff_not, beq_iff_eq, bne_iff_ne, beq_eq_false_iff_ne, bne_eq_false_iff_eq, Bool.not_eq_true', Bool.not_eq_false', Bool.and_eq_true, Bool.or_eq_true, Bool.and_eq_false_iff, Bool.or_eq_false_iff, Int.not_lt, Int.not_le, Bool.false_eq_true, Bool.true_eq_false, false_and, and_false, true_and, and_true, or_false, false_or, or_true, true_or, not_true_eq_false, not_false_eq_true] at h))
      · (try simp (disch := first | omega | (simp only [LN]; omega)) only [↓EC, EW, seval, ↓reduceIte, false_imp_iff])
        rw [not_setB (i := i) (by omega) (fun hh => by rw [isF, h] at hh; cases hh.1)]
      · have hf := isF_at h
        (refine Split.mk (fun h => ?_) (fun h => ?_) <;> (try simp only [decide_eq_true_eq, decide_eq_false_iff_not, beq_iff_eq, bne_iff_ne, beq_eq_false_iff_ne, bne_eq_false_iff_eq, Bool.not_eq_true', Bool.not_eq_false', Bool.and_eq_true, Bool.or_eq_true, Bool.and_eq_false_iff, Bool.or_eq_false_iff, Int.not_lt, Int.not_le, Bool.false_eq_true, Bool.true_eq_false, false_and, and_false, true_and, and_true, or_false, false_or, or_true, true_or, not_true_eq_false, not_false_eq_true] at h))
        · (try simp (disch := first | omega | (simp only [LN]; omega)) only [↓EC, EW, seval, ↓reduceIte, false_imp_iff, toNat_pred])
          have hp := (h2 (i - 1) (by omega)).1
          refine pcd_v (c_impl_compareFractions hp hf) ?_
          (try simp (disch := first | omega | (simp only [LN]; omega)) only [↓EC, EW, seval, ↓reduceIte, false_imp_iff])
          (refine Split.mk (fun h => ?_) (fun h => ?_) <;> (try simp only [decide_eq_true_eq, decide_eq_false_iff_not, beq_iff_eq, bne_iff_ne, beq_eq_false_iff_ne, bne_eq_false_iff_eq, Bool.not_eq_true', Bool.not_eq_false', Bool.and_eq_true, Bool.or_eq_true, Bool.and_eq_false_iff, Bool.or_eq_false_iff, Int.not_lt, Int.not_le, Bool.false_eq_true, Bool.true_eq_false, false_and, and_false, true_and, and_true, or_false, false_or, or_true, true_or, not_true_eq_false, not_false_eq_true] at h))
          · (try simp (disch := first | omega | (simp only [LN]; omega)) only [↓EC, EW, seval, ↓reduceIte, false_imp_iff])
            rw [not_setB (i := i) (by omega) (fun hh => absurd (hh.2 (by omega)) (by unfold cmpF; omega))]
          · (try simp (disch := first | omega | (simp only [LN]; omega)) only [↓EC, EW, seval, ↓reduceIte, false_imp_iff])
            refine ⟨i + 1, rfl, ⟨by omega, fun j hj => ?_⟩, by omega⟩
            by_cases e : j = i
            · subst e; exact ⟨hf, fun _ => h⟩
            · exact h2 j (by omega)
        · (try simp (disch := first | omega | (simp only [LN]; omega)) only [↓EC, EW, seval, ↓reduceIte, false_imp_iff])
          refine ⟨i + 1, rfl, ⟨by omega, fun j hj => ?_⟩, by omega⟩
          by_cases e : j = i
          · subst e; exact ⟨hf, fun _ => by omega⟩
          · exact h2 j (by omega)
    · (try simp (disch := first | omega | (simp only [LN]; omega)) only [↓EC, EW, seval, ↓reduceIte, false_imp_iff])
      rw [setB_of fun j hj => h2 j (by omega)]
      congr 1
      exact decide_eq_decide.2 (by omega)
theorem c_spec_IsSet {l : List (Int × Int)} (hl : l.length ≤ 1048576) : PSpec Try.prog 30 [.sl l.length (v2 .i64 l)] fun v => v = .bool (setB l) := by
  refine spec_IsSet_f.f ?_
  simp (disch := first | omega | (simp only [LN]; omega)) only [↓EC, EW, seval, ↓reduceIte, false_imp_iff, spec_IsSet_F]
  (refine pcd_v (c_spec_l10Set hl) ?_; (try simp (disch := first | omega | (simp only [LN]; omega)) only [↓EC, EW, seval, ↓reduceIte, false_imp_iff]))
end Go.Proofs.Ytlfpiegadaiafaa.Sep
end
section
/- Fractions in least terms: the plain law of the moves. -/
namespace Go.Proofs.Ytlfpiegadaiafaa.Sep
open Go.RowKit
set_option linter.unusedVariables false
set_option linter.unusedSimpArgs false
set_option maxRecDepth 20000

/-- A fraction in least terms. -/
def rd (U V : Int) : Int × Int := (V.sign * U / Int.gcd U V, V.natAbs / Int.gcd U V)

theorem dvd_cop {k m n : Int} (hc : Int.gcd m k = 1) (h : k ∣ m * n) : k ∣ n := by
  rw [← Int.natAbs_dvd_natAbs] at h ⊢
  rw [Int.natAbs_mul] at h
  refine Nat.Coprime.dvd_of_dvd_mul_left ?_ h
  rw [Int.gcd_comm] at hc
  exact hc
theorem gcd_natAbs_r {a b : Int} : Int.gcd a (b.natAbs : Int) = Int.gcd a b := by simp [Int.gcd]

theorem rd_uniq {n d N D : Int} (hd : 0 < d) (hD : 0 < D) (hc : Int.gcd n d = 1) (hC : Int.gcd N D = 1) (h : n * D = N * d) : n = N ∧ d = D := by
  have h1 : d ∣ D := dvd_cop hc (by rw [h]; exact Int.dvd_mul_left _ _)
  have h2 : D ∣ d := dvd_cop hC (by rw [← h]; exact Int.dvd_mul_left _ _)
  have h3 : d = D := Int.dvd_antisymm (by omega) (by omega) h1 h2
  subst h3
  exact ⟨Int.eq_of_mul_eq_mul_right (by omega) h, rfl⟩

theorem rd_spec {U V : Int} (hV : V ≠ 0) : 0 < (rd U V).2 ∧ Int.gcd (rd U V).1 (rd U V).2 = 1 ∧ (rd U V).1 * V = U * (rd U V).2 := by
  have hg : Int.gcd U V ≠ 0 := by
    intro h; rw [Int.gcd_eq_zero_iff] at h; exact hV h.2
  have hg' : (0 : Int) < Int.gcd U V := by omega
  obtain ⟨u, hu⟩ := Int.gcd_dvd_left (a := U) (b := V)
  obtain ⟨v, hv⟩ := Int.gcd_dvd_right (a := U) (b := V)
  have hv0 : v ≠ 0 := by rintro rfl; simp at hv; exact hV hv
  have hs : V.sign = v.sign := by
    rw [hv, Int.sign_mul, Int.sign_eq_one_of_pos hg']; simp
  have e1 : (rd U V).1 = v.sign * u := by
    simp only [rd]
    rw [hs]
    conv => lhs; arg 1; rw [hu]
    rw [show v.sign * (↑(Int.gcd U V) * u) = ↑(Int.gcd U V) * (v.sign * u) by ac_rfl]
    exact Int.mul_ediv_cancel_left _ (by omega)
  have e2 : (rd U V).2 = v.natAbs := by
    simp only [rd]
    have : V.natAbs = Int.gcd U V * v.natAbs := by
      conv => lhs; rw [hv]
      rw [Int.natAbs_mul]; rfl
    rw [this]
    push_cast
    exact Int.mul_ediv_cancel_left _ (by omega)
  have hc : Int.gcd u v = 1 := by
    have h := Int.gcd_mul_left (Int.gcd U V : Int) u v
    rw [← hu, ← hv] at h
    simp only [Int.natAbs_natCast] at h
    have h2 : Int.gcd U V * Int.gcd u v = Int.gcd U V * 1 := by omega
    exact Nat.eq_of_mul_eq_mul_left (by omega) h2
  refine ⟨by rw [e2]; omega, ?_, ?_⟩
  · rw [e1, e2, gcd_natAbs_r]
    rcases Int.lt_or_gt_of_ne hv0 with h | h
    · rw [Int.sign_eq_neg_one_of_neg h]; simpa using hc
    · rw [Int.sign_eq_one_of_pos h]; simpa using hc
  · rw [e1, e2]
    have h3 : (v.natAbs : Int) = v.sign * v := by rw [Int.sign_mul_self]; 
    rw [h3]
    conv => lhs; rw [hv]
    conv => rhs; arg 1; rw [hu]
    ac_rfl

theorem rd_eq {U V n d : Int} (hV : V ≠ 0) (hd : 0 < d) (hc : Int.gcd n d = 1) (h : n * V = U * d) : rd U V = (n, d) := by
  obtain ⟨h1, h2, h3⟩ := rd_spec (U := U) hV
  have h4 : (rd U V).1 * d = n * (rd U V).2 := by
    refine Int.eq_of_mul_eq_mul_right hV ?_
    calc (rd U V).1 * d * V = (rd U V).1 * V * d := by ac_rfl
      _ = U * (rd U V).2 * d := by rw [h3]
      _ = U * d * (rd U V).2 := by ac_rfl
      _ = n * V * (rd U V).2 := by rw [h]
      _ = _ := by ac_rfl
  obtain ⟨a, b⟩ := rd_uniq h1 hd h2 hc h4
  exact Prod.ext a b
theorem rd_ratio {U V U' V' : Int} (hV : V ≠ 0) (hV' : V' ≠ 0) (h : U * V' = U' * V) : rd U V = rd U' V' := by
  obtain ⟨h1, h2, h3⟩ := rd_spec (U := U') hV'
  refine rd_eq hV h1 h2 ?_
  refine Int.eq_of_mul_eq_mul_right hV' ?_
  calc (rd U' V').1 * V * V' = (rd U' V').1 * V' * V := by ac_rfl
    _ = U' * (rd U' V').2 * V := by rw [h3]
    _ = U' * V * (rd U' V').2 := by ac_rfl
    _ = U * V' * (rd U' V').2 := by rw [h]
    _ = _ := by ac_rfl
theorem rd_self {n d : Int} (hd : 0 < d) (hc : Int.gcd n d = 1) : rd n d = (n, d) := rd_eq (by omega) hd hc rfl
theorem rd_zero {V : Int} (hV : V ≠ 0) : rd 0 V = (0, 1) := rd_eq hV (by omega) (by simp) (by simp)

/-! ### Numbers without a common divisor -/
def cop (a b : Int) : Prop := Int.gcd a b = 1
theorem cop_iff {a b : Int} : cop a b ↔ Nat.Coprime a.natAbs b.natAbs := Iff.rfl
theorem cop_comm {a b : Int} : cop a b ↔ cop b a := by simp only [cop]; rw [Int.gcd_comm]
theorem cop_mul_l {a b c : Int} (h : cop a c) (h' : cop b c) : cop (a * b) c := by
  rw [cop_iff] at *; rw [Int.natAbs_mul]; exact h.mul_left h'
theorem cop_mul_r {a b c : Int} (h : cop c a) (h' : cop c b) : cop c (a * b) := by
  rw [cop_iff] at *; rw [Int.natAbs_mul]; exact h.mul_right h'
theorem cop_pow_l {a c : Int} {k : Nat} (h : cop a c) : cop (a ^ k) c := by
  rw [cop_iff] at *; rw [Int.natAbs_pow]; exact h.pow_left k
theorem cop_pow_r {a c : Int} {k : Nat} (h : cop c a) : cop c (a ^ k) := by
  rw [cop_iff] at *; rw [Int.natAbs_pow]; exact h.pow_right k
theorem cop_dvd_l {a b c : Int} (h : cop a c) (h' : b ∣ a) : cop b c := by
  rw [cop_iff] at *; exact h.coprime_dvd_left (Int.natAbs_dvd_natAbs.2 h')
theorem cop_dvd_r {a b c : Int} (h : cop c a) (h' : b ∣ a) : cop c b := by
  rw [cop_iff] at *; exact h.coprime_dvd_right (Int.natAbs_dvd_natAbs.2 h')
theorem cop_one_l {c : Int} : cop 1 c := by simp [cop]
theorem cop_one_r {c : Int} : cop c 1 := by simp [cop]
theorem dvd_of_cop {k m n : Int} (hc : cop m k) (h : k ∣ m * n) : k ∣ n := dvd_cop hc h

/-! ### Products of lists -/
def lprod : List Int → Int
  | [] => 1
  | a :: l => a * lprod l
theorem lprod_append {l m : List Int} : lprod (l ++ m) = lprod l * lprod m := by
  induction l with
  | nil => simp [lprod]
  | cons a l ih => simp only [List.cons_append, lprod, ih]; ac_rfl
theorem lprod_set {l : List Int} {i : Nat} {x : Int} (hi : i < l.length) : lprod (l.set i x) * l[i] = lprod l * x := by
  induction l generalizing i with
  | nil => simp at hi
  | cons a l ih =>
    cases i with
    | zero => simp only [List.set_cons_zero, lprod, List.getElem_cons_zero]; ac_rfl
    | succ i =>
      simp only [List.set_cons_succ, lprod, List.getElem_cons_succ]
      have hi' : i < l.length := by simpa using hi
      have := ih hi'
      calc a * lprod (l.set i x) * l[i] = a * (lprod (l.set i x) * l[i]) := by ac_rfl
        _ = a * (lprod l * x) := by rw [this]
        _ = _ := by ac_rfl
theorem lprod_ne {l : List Int} (h : ∀ a ∈ l, a ≠ 0) : lprod l ≠ 0 := by
  induction l with
  | nil => simp [lprod]
  | cons a l ih =>
    simp only [lprod]
    exact Int.mul_ne_zero (h a (by simp)) (ih fun b hb => h b (by simp [hb]))
theorem lprod_zero {l : List Int} (h : 0 ∈ l) : lprod l = 0 := by
  induction l with
  | nil => simp at h
  | cons a l ih =>
    simp only [lprod]
    rcases List.mem_cons.1 h with rfl | h
    · simp
    · rw [ih h]; simp
theorem lprod_pos {l : List Int} (h : ∀ a ∈ l, 0 < a) : 0 < lprod l := by
  induction l with
  | nil => simp [lprod]
  | cons a l ih => exact Int.mul_pos (h a (by simp)) (ih fun b hb => h b (by simp [hb]))
theorem cop_lprod_l {l : List Int} {c : Int} (h : ∀ a ∈ l, cop a c) : cop (lprod l) c := by
  induction l with
  | nil => exact cop_one_l
  | cons a l ih => exact cop_mul_l (h a (by simp)) (ih fun b hb => h b (by simp [hb]))
theorem cop_lprod {l m : List Int} (h : ∀ a ∈ l, ∀ b ∈ m, cop a b) : cop (lprod l) (lprod m) :=
  cop_lprod_l fun a ha => cop_comm.1 (cop_lprod_l fun b hb => cop_comm.1 (h a ha b hb))
theorem lprod_rep {k : Nat} {a : Int} : lprod (List.replicate k a) = a ^ k := by
  induction k with
  | zero => simp [lprod]
  | succ k ih => rw [List.replicate_succ, lprod, ih, Int.pow_succ]; ac_rfl

/-- What the first products of a list are, if none is too great. -/
theorem natAbs_le_mul {a b : Int} (hb : b ≠ 0) : a.natAbs ≤ (a * b).natAbs := by
  rw [Int.natAbs_mul]; exact Nat.le_mul_of_pos_right _ (by omega)

/-! ### Dividing common divisors away -/
structure Low (U V : Int) (xs bs : List Int) (i k : Nat) : Prop where
  rat : lprod xs * V = U * lprod bs
  nz : ∀ b ∈ bs, b ≠ 0
  c1 : ∀ p q, (hp : p < xs.length) → (hq : q < bs.length) → (p < i ∨ p = i ∧ q < k) → cop xs[p] bs[q]
theorem gcd_pos_r {a b : Int} (h : b ≠ 0) : 0 < (Int.gcd a b : Int) := by
  have : Int.gcd a b ≠ 0 := by
    intro h'; rw [Int.gcd_eq_zero_iff] at h'; exact h h'.2
  omega
theorem Low_step {U V : Int} {xs bs : List Int} {i k : Nat} (h : Low U V xs bs i k) (hi : i < xs.length) (hk : k < bs.length) :
    Low U V (xs.set i (xs[i] / (Int.gcd xs[i] bs[k] : Int))) (bs.set k (bs[k] / (Int.gcd xs[i] bs[k] : Int))) i (k + 1) := by
  have hb : bs[k] ≠ 0 := h.nz _ (List.getElem_mem hk)
  have hg := gcd_pos_r (a := xs[i]) hb
  generalize hG : (Int.gcd xs[i] bs[k] : Int) = g at *
  have da : g ∣ xs[i] := by rw [← hG]; exact Int.gcd_dvd_left _ _
  have db : g ∣ bs[k] := by rw [← hG]; exact Int.gcd_dvd_right _ _
  obtain ⟨a', ha'⟩ := da
  obtain ⟨b', hb'⟩ := db
  have e1 : xs[i] / g = a' := by rw [ha']; exact Int.mul_ediv_cancel_left _ (by omega)
  have e2 : bs[k] / g = b' := by rw [hb']; exact Int.mul_ediv_cancel_left _ (by omega)
  have hc : cop a' b' := by
    have h1 := Int.gcd_mul_left g a' b'
    rw [← ha', ← hb'] at h1
    have h2 : (Int.gcd xs[i] bs[k] : Int).natAbs = g.natAbs := by rw [hG]
    rw [Int.natAbs_natCast] at h2
    rw [h2] at h1
    have h3 : g.natAbs * Int.gcd a' b' = g.natAbs * 1 := by omega
    exact Nat.eq_of_mul_eq_mul_left (by omega) h3
  rw [e1, e2]
  have s1 := lprod_set (x := a') hi
  have s2 := lprod_set (x := b') hk
  have q1 : lprod (xs.set i a') * g = lprod xs ∨ a' = 0 := by
    by_cases h0 : a' = 0
    · exact .inr h0
    · refine .inl (Int.eq_of_mul_eq_mul_right h0 ?_)
      rw [← s1, ha']; ac_rfl
  have q2 : lprod (bs.set k b') * g = lprod bs := by
    have h0 : b' ≠ 0 := by rintro rfl; rw [hb'] at hb; simp at hb
    refine Int.eq_of_mul_eq_mul_right h0 ?_
    rw [← s2, hb']; ac_rfl
  refine ⟨?_, ?_, ?_⟩
  · rcases q1 with q1 | q1
    · refine Int.eq_of_mul_eq_mul_right (a := g) (by omega) ?_
      calc lprod (xs.set i a') * V * g = lprod (xs.set i a') * g * V := by ac_rfl
        _ = U * lprod bs := by rw [q1, h.rat]
        _ = U * (lprod (bs.set k b') * g) := by rw [q2]
        _ = _ := by ac_rfl
    · have z1 : lprod (xs.set i a') = 0 := lprod_zero (by rw [q1]; exact List.mem_set hi _)
      have z2 : lprod xs = 0 := lprod_zero (by rw [q1] at ha'; simp at ha'; rw [← ha']; exact List.getElem_mem hi)
      have h3 := h.rat
      rw [z2] at h3
      rw [z1]
      simp only [Int.zero_mul] at h3 ⊢
      have h4 : lprod bs ≠ 0 := lprod_ne h.nz
      rcases Int.mul_eq_zero.1 h3.symm with h5 | h5
      · rw [h5]; simp
      · exact absurd h5 h4
  · intro b hbm
    rcases List.mem_or_eq_of_mem_set hbm with h1 | h1
    · exact h.nz _ h1
    · subst h1; rintro rfl; rw [hb'] at hb; simp at hb
  · intro p q hp hq hpq
    simp only [List.length_set] at hp hq
    have h1 : (xs.set i a')[p]'(by simpa using hp) ∣ xs[p] := by
      rw [List.getElem_set]
      split
      · rename_i h1; subst h1; rw [ha']; exact Int.dvd_mul_left _ _
      · exact Int.dvd_refl _
    have h2 : (bs.set k b')[q]'(by simpa using hq) ∣ bs[q] := by
      rw [List.getElem_set]
      split
      · rename_i h1; subst h1; rw [hb']; exact Int.dvd_mul_left _ _
      · exact Int.dvd_refl _
    by_cases h3 : p < i ∨ p = i ∧ q < k
    · exact cop_dvd_l (cop_dvd_r (h.c1 p q hp hq h3) h2) h1
    · have h4 : p = i ∧ q = k := by omega
      obtain ⟨rfl, rfl⟩ := h4
      simpa using hc
theorem Low_next {U V : Int} {xs bs : List Int} {i : Nat} (h : Low U V xs bs i bs.length) : Low U V xs bs (i + 1) 0 :=
  ⟨h.rat, h.nz, fun p q hp hq hpq => h.c1 p q hp hq (by omega)⟩
theorem Low_end {U V : Int} {xs bs : List Int} (h : Low U V xs bs xs.length 0) : cop (lprod xs) (lprod bs) := by
  refine cop_lprod fun a ha b hb => ?_
  obtain ⟨p, hp, rfl⟩ := List.getElem_of_mem ha
  obtain ⟨q, hq, rfl⟩ := List.getElem_of_mem hb
  exact h.c1 p q hp hq (.inl hp)
theorem Low_rd {U V : Int} {xs bs : List Int} (hV : V ≠ 0) (h : Low U V xs bs xs.length 0) : rd U V = if lprod bs < 0 then (-lprod xs, -lprod bs) else (lprod xs, lprod bs) := by
  have h1 := Low_end h
  have h2 := lprod_ne h.nz
  split
  · refine rd_eq hV (by omega) (by simpa [cop] using h1) ?_
    rw [Int.neg_mul, Int.mul_neg, h.rat]
  · exact rd_eq hV (by omega) h1 h.rat

/-! ### Dividing prime by prime -/
/-- What is found: 'on / od' times 'A / B' is 'N / D'. -/
structure Pri (N D on od A B : Int) : Prop where
  on0 : 0 < on
  od0 : 0 < od
  A0 : 0 < A
  B0 : 0 < B
  rat : N * (od * B) = D * (on * A)
  c : cop on od
  c1 : cop on (A * B)
  c2 : cop od (A * B)
theorem Pri.swap {N D on od A B : Int} (h : Pri N D on od A B) : Pri D N od on B A :=
  ⟨h.od0, h.on0, h.B0, h.A0, h.rat.symm, cop_comm.1 h.c, by rw [Int.mul_comm]; exact h.c2, by rw [Int.mul_comm]; exact h.c1⟩
/-- The numbers that are no multiples of 'p' have no divisor with it. -/
def isP (p : Int) : Prop := 2 ≤ p ∧ ∀ y : Int, ¬ p ∣ y → cop p y
theorem Pri_up {N D on od A B p : Int} {P Q : Nat} (hp : isP p) (h : Pri N D on od (p ^ P * A) (p ^ Q * B)) (hA : cop p A) (hB : cop p B) (hPQ : Q ≤ P) :
    Pri N D (on * p ^ (P - Q)) od A B := by
  have p0 : 0 < p := by have := hp.1; omega
  have pk : ∀ k : Nat, 0 < p ^ k := fun k => Int.pow_pos p0
  have A0 : 0 < A := by
    have := h.A0; exact Int.pos_of_mul_pos_right (a := p ^ P) this (by have := pk P; omega) 
  have B0 : 0 < B := by
    have := h.B0; exact Int.pos_of_mul_pos_right (a := p ^ Q) this (by have := pk Q; omega) 
  have d1 : A * B ∣ (p ^ P * A) * (p ^ Q * B) := ⟨p ^ P * p ^ Q, by ac_rfl⟩
  refine ⟨Int.mul_pos h.on0 (pk _), h.od0, A0, B0, ?_, ?_, ?_, ?_⟩
  · have h1 := h.rat
    have h2 : p ^ P = p ^ Q * p ^ (P - Q) := by rw [← Int.pow_add]; congr 1; omega
    rw [h2] at h1
    refine Int.eq_of_mul_eq_mul_left (a := p ^ Q) (by have := pk Q; omega) ?_
    calc p ^ Q * (N * (od * B)) = N * (od * (p ^ Q * B)) := by ac_rfl
      _ = D * (on * (p ^ Q * p ^ (P - Q) * A)) := h1
      _ = _ := by ac_rfl
  · refine cop_mul_l h.c ?_
    by_cases h0 : P - Q = 0
    · rw [h0, Int.pow_zero]; exact cop_one_l
    · refine cop_pow_l (cop_comm.1 (cop_dvd_r h.c2 ?_))
      obtain ⟨P', rfl⟩ : ∃ k, P = k + 1 := ⟨P - 1, by omega⟩
      exact ⟨p ^ P' * A * (p ^ Q * B), by rw [Int.pow_succ]; ac_rfl⟩
  · exact cop_mul_l (cop_dvd_r h.c1 d1) (cop_pow_l (cop_mul_r hA hB))
  · exact cop_dvd_r h.c2 d1
theorem Pri_dn {N D on od A B p : Int} {P Q : Nat} (hp : isP p) (h : Pri N D on od (p ^ P * A) (p ^ Q * B)) (hA : cop p A) (hB : cop p B) (hPQ : P ≤ Q) :
    Pri N D on (od * p ^ (Q - P)) A B := (Pri_up hp h.swap hB hA hPQ).swap
theorem Pri_le {N D on od A B : Int} (hN : 0 < N) (h : Pri N D on od A B) : on ≤ N := by
  have h1 : on ∣ (od * B) * N := by rw [Int.mul_comm, h.rat]; exact ⟨D * A, by ac_rfl⟩
  have h2 : cop (od * B) on := cop_mul_l (cop_comm.1 h.c) (cop_comm.1 (cop_dvd_r h.c1 (Int.dvd_mul_left _ _)))
  exact Int.le_of_dvd hN (dvd_of_cop h2 h1)
theorem Pri_end {N D on od : Int} (hD : 0 < D) (hc : cop N D) (h : Pri N D on od 1 1) : on = N ∧ od = D := by
  have h1 := h.rat
  simp only [Int.mul_one] at h1
  exact rd_uniq h.od0 hD h.c hc (by rw [Int.mul_comm, ← h1])

/-- The least divisor is a prime. -/
theorem isP_of {p x : Int} (h2 : 2 ≤ p) (hd : p ∣ x) (hl : ∀ d : Int, 2 ≤ d → d < p → ¬ d ∣ x) : isP p := by
  refine ⟨h2, fun y hy => ?_⟩
  have h3 : (Int.gcd p y : Int) ∣ p := Int.gcd_dvd_left _ _
  have h4 : (Int.gcd p y : Int) ≤ p := Int.le_of_dvd (by omega) h3
  have h5 : (Int.gcd p y : Int) ∣ y := Int.gcd_dvd_right _ _
  have h6 : Int.gcd p y ≠ 0 := by
    intro h; rw [Int.gcd_eq_zero_iff] at h; omega
  by_cases h7 : (Int.gcd p y : Int) = p
  · rw [h7] at h5; exact absurd h5 hy
  · by_cases h8 : (Int.gcd p y : Int) = 1
    · show Int.gcd p y = 1
      omega
    · exact absurd (Int.dvd_trans h3 hd) (hl _ (by omega) (by omega))
/-- A number without divisors up to its root is a prime. -/
theorem isP_self {p x : Int} (h2 : 2 ≤ p) (hx : 2 ≤ x) (hl : ∀ d : Int, 2 ≤ d → d < p → ¬ d ∣ x) (hpp : x < p * p) : isP x := by
  refine isP_of hx (Int.dvd_refl _) fun d d2 dx hd => ?_
  by_cases h : d < p
  · exact hl d d2 h hd
  · obtain ⟨e, he⟩ := hd
    have e2 : 2 ≤ e := by
      by_cases h3 : e ≤ 0
      · have : d * e ≤ d * 0 := Int.mul_le_mul_of_nonneg_left h3 (by omega)
        omega
      · by_cases h4 : e = 1
        · subst h4; omega
        · omega
    have e3 : e < p := by
      by_cases h3 : e < p
      · exact h3
      · have : p * p ≤ d * e := Int.mul_le_mul (by omega) (by omega) (by omega) (by omega)
        omega
    exact hl e e2 e3 ⟨d, by rw [he]; ac_rfl⟩

/-! ### The value of a move of Kind 2 -/
def vU (f l : Nat) (u v : Int) : Int := u ^ f * (v - u) ^ l * (f + l : Int) ^ (f + l)
def vV (f l : Nat) (v : Int) : Int := v ^ (f + l) * ((f : Int) ^ f * (l : Int) ^ l)
theorem vV_pos {f l : Nat} {v : Int} (hf : 1 ≤ f) (hl : 1 ≤ l) (hv : 0 < v) : 0 < vV f l v :=
  Int.mul_pos (Int.pow_pos hv) (Int.mul_pos (Int.pow_pos (by omega)) (Int.pow_pos (by omega)))
theorem cop_sub {u v : Int} (h : cop u v) : cop (v - u) v := by
  unfold cop at *
  rw [Int.gcd_sub_left_left_of_dvd u (Int.dvd_refl v)]
  exact h
theorem rd_bounds {f l : Nat} {u v : Int} (hf : 1 ≤ f) (hl : 1 ≤ l) (hv : 0 < v) (hc : cop u v) :
    u.natAbs ^ f * (v - u).natAbs ^ l ≤ (rd (vU f l u v) (vV f l v)).1.natAbs * (f ^ f * l ^ l) ∧
    v.natAbs ^ (f + l) ≤ (rd (vU f l u v) (vV f l v)).2.natAbs * (f + l) ^ (f + l) := by
  obtain ⟨h1, h2, h3⟩ := rd_spec (U := vU f l u v) (V := vV f l v) (by have := vV_pos hf hl hv; omega)
  generalize rd (vU f l u v) (vV f l v) = r at *
  obtain ⟨n, d⟩ := r
  simp only at *
  have hcA : cop (u ^ f * (v - u) ^ l) (v ^ (f + l)) := cop_pow_r (cop_mul_l (cop_pow_l hc) (cop_pow_l (cop_sub hc)))
  unfold vU vV at h3
  generalize hA : u ^ f * (v - u) ^ l = A at *
  generalize hB : v ^ (f + l) = B at *
  generalize hP : (f + l : Int) ^ (f + l) = P at *
  generalize hQ : (f : Int) ^ f * (l : Int) ^ l = Q at *
  have P0 : 0 < P := by rw [← hP]; exact Int.pow_pos (by omega)
  have Q0 : 0 < Q := by rw [← hQ]; exact Int.mul_pos (Int.pow_pos (by omega)) (Int.pow_pos (by omega))
  have B0 : 0 < B := by rw [← hB]; exact Int.pow_pos hv
  -- n (B Q) = (A P) d
  have dd : d ∣ B * Q := by
    refine dvd_of_cop (m := n) h2 ?_
    rw [h3]; exact Int.dvd_mul_left _ _
  obtain ⟨g, hg⟩ := dd
  have hg2 : n * g = A * P := by
    refine Int.eq_of_mul_eq_mul_right (a := d) (by omega) ?_
    rw [← h3, hg]; ac_rfl
  have g0 : 0 < g := by
    have : 0 < d * g := by rw [← hg]; exact Int.mul_pos B0 Q0
    exact Int.pos_of_mul_pos_right (a := d) this (by omega)
  have gd : g ∣ P * Q := by
    have q1 : g ∣ A * (P * Q) := ⟨n * Q, by rw [← Int.mul_assoc, ← hg2]; ac_rfl⟩
    have q2 : g ∣ B * (P * Q) := ⟨d * P, by rw [show B * (P * Q) = (B * Q) * P by ac_rfl, hg]; ac_rfl⟩
    have q3 : (g.natAbs : Int) ∣ A * (P * Q) := by rw [Int.natAbs_of_nonneg (by omega)]; exact q1
    have q4 : (g.natAbs : Int) ∣ B * (P * Q) := by rw [Int.natAbs_of_nonneg (by omega)]; exact q2
    have q5 := Int.dvd_gcd q3 q4
    rw [Int.gcd_mul_right, show Int.gcd A B = 1 from hcA, Nat.one_mul] at q5
    rwa [Int.natAbs_dvd_natAbs] at q5
  have gle : g ≤ P * Q := Int.le_of_dvd (Int.mul_pos P0 Q0) gd
  have e1 : A.natAbs = u.natAbs ^ f * (v - u).natAbs ^ l := by rw [← hA, Int.natAbs_mul, Int.natAbs_pow, Int.natAbs_pow]
  have e2 : B.natAbs = v.natAbs ^ (f + l) := by rw [← hB, Int.natAbs_pow]
  have e3 : Q.natAbs = f ^ f * l ^ l := by rw [← hQ, Int.natAbs_mul, Int.natAbs_pow, Int.natAbs_pow]; simp
  have e4 : P.natAbs = (f + l) ^ (f + l) := by rw [← hP, Int.natAbs_pow]; congr 1
  rw [← e1, ← e2, ← e3, ← e4]
  have gle' : g.natAbs ≤ P.natAbs * Q.natAbs := by rw [← Int.natAbs_mul]; omega
  constructor
  · refine Nat.le_of_mul_le_mul_right (c := P.natAbs) ?_ (by omega)
    rw [← Int.natAbs_mul, ← hg2, Int.natAbs_mul, Nat.mul_assoc, Nat.mul_comm Q.natAbs]
    exact Nat.mul_le_mul_left _ gle'
  · refine Nat.le_of_mul_le_mul_right (c := Q.natAbs) ?_ (by omega)
    rw [← Int.natAbs_mul, hg, Int.natAbs_mul, Nat.mul_assoc]
    exact Nat.mul_le_mul_left _ gle'
theorem pow_ge {K a f : Nat} (h : K * f ≤ a) : K ^ f * f ^ f ≤ a ^ f := by
  rw [← Nat.mul_pow]; exact Nat.pow_le_pow_left h f
/-- Where a part of a factor is too great, a part of the value is. -/
theorem rd_big {f l : Nat} {u v : Int} (hf : 1 ≤ f ∧ f ≤ 20) (hl : 1 ≤ l ∧ l ≤ 20) (hv : 0 < v) (hc : cop u v)
    (h : 25000000 < u.natAbs ∨ 25000000 < (v - u).natAbs ∨ 50000000 < v) :
    1000000000 < (rd (vU f l u v) (vV f l v)).1.natAbs ∨ 1000000000 < (rd (vU f l u v) (vV f l v)).2.natAbs := by
  obtain ⟨h1, h2⟩ := rd_bounds hf.1 hl.1 hv hc
  generalize rd (vU f l u v) (vV f l v) = r at *
  obtain ⟨n, d⟩ := r
  simp only at *
  by_cases hb : 1600000 ≤ v
  · right
    have h3 : 40000 * (f + l) ≤ v.natAbs := by omega
    have h4 := pow_ge h3
    have h5 : 40000 ^ (f + l) ≤ d.natAbs :=
      Nat.le_of_mul_le_mul_right (Nat.le_trans h4 h2) (Nat.pow_pos (by omega))
    have h6 : 40000 ^ 2 ≤ 40000 ^ (f + l) := Nat.pow_le_pow_right (by omega) (by omega)
    omega
  · left
    have h3 : 40000 * f ≤ u.natAbs := by omega
    have h4 : 40000 * l ≤ (v - u).natAbs := by omega
    have h5 := Nat.mul_le_mul (pow_ge h3) (pow_ge h4)
    have h6 : 40000 ^ f * 40000 ^ l ≤ n.natAbs := by
      refine Nat.le_of_mul_le_mul_right (c := f ^ f * l ^ l) ?_ (Nat.mul_pos (Nat.pow_pos (by omega)) (Nat.pow_pos (by omega)))
      refine Nat.le_trans (Nat.le_of_eq ?_) (Nat.le_trans h5 h1)
      ac_rfl
    rw [← Nat.pow_add] at h6
    have h7 : 40000 ^ 2 ≤ 40000 ^ (f + l) := Nat.pow_le_pow_right (by omega) (by omega)
    omega
/-- The parts of a fraction in least terms are no greater. -/
theorem rd_le {U V : Int} (hV : 0 < V) : (rd U V).1.natAbs ≤ U.natAbs ∧ (rd U V).2 ≤ V := by
  have hg := gcd_pos_r (a := U) (b := V) (by omega)
  constructor
  · simp only [rd]
    rw [Int.sign_eq_one_of_pos hV, Int.one_mul]
    exact Int.natAbs_ediv_le_natAbs _ _
  · simp only [rd]
    rw [Int.natAbs_of_nonneg (by omega)]
    exact Int.ediv_le_self _ (by omega)
/-- The value out of powers of two fractions. -/
theorem rd_pows {f l : Nat} {u v an ad bn bd : Int} (hf : 1 ≤ f) (hl : 1 ≤ l) (hv : 0 < v) (ha : 0 < ad) (hb : 0 < bd)
    (h1 : an * (v * f) = u * (f + l) * ad) (h2 : bn * (v * l) = (v - u) * (f + l) * bd) :
    rd (an ^ f * bn ^ l) (ad ^ f * bd ^ l) = rd (vU f l u v) (vV f l v) := by
  have hV := vV_pos hf hl hv
  have hW : 0 < ad ^ f * bd ^ l := Int.mul_pos (Int.pow_pos ha) (Int.pow_pos hb)
  refine rd_ratio (by omega) (by omega) ?_
  have e1 : (an * (v * f)) ^ f = (u * (f + l) * ad) ^ f := by rw [h1]
  have e2 : (bn * (v * l)) ^ l = ((v - u) * (f + l) * bd) ^ l := by rw [h2]
  simp only [Int.mul_pow] at e1 e2
  unfold vU vV
  rw [Int.pow_add, Int.pow_add]
  calc an ^ f * bn ^ l * (v ^ f * v ^ l * ((f : Int) ^ f * (l : Int) ^ l)) = (an ^ f * (v ^ f * (f : Int) ^ f)) * (bn ^ l * (v ^ l * (l : Int) ^ l)) := by ac_rfl
    _ = (u ^ f * (f + l : Int) ^ f * ad ^ f) * ((v - u) ^ l * (f + l : Int) ^ l * bd ^ l) := by rw [e1, e2]
    _ = _ := by ac_rfl

/-! ### What a move answers -/
def okPf (p : Int × Int) : Option (Int × Int) := if p.1.natAbs ≤ 1000000000 ∧ p.2 ≤ 1000000000 then some p else none
def mvO (k f l n d : Int) : Option (Int × Int) :=
  if k = 1 ∧ d = 0 then some (0, 1) else if d = 0 ∨ k = 1 ∧ n = 0 then some (1, 0)
  else if k = 0 then okPf (rd (d - n) d) else if k = 1 then okPf (rd d n)
  else okPf (rd (vU f.toNat l.toNat n d) (vV f.toNat l.toNat d))
def frV : Option (Int × Int) → V
  | some p => .tup [.agg [.int .i64 p.1, .int .i64 p.2], .int .i64 0]
  | none => .tup [.agg [.int .i64 0, .int .i64 0], .int .i64 3]
theorem frV_ok {p : Int × Int} (h : p.1.natAbs ≤ 1000000000 ∧ p.2 ≤ 1000000000) : frV (okPf p) = .tup [.agg [.int .i64 p.1, .int .i64 p.2], .int .i64 0] := by
  unfold okPf; rw [if_pos h]; rfl
theorem frV_no {p : Int × Int} (h : ¬ (p.1.natAbs ≤ 1000000000 ∧ p.2 ≤ 1000000000)) : frV (okPf p) = .tup [.agg [.int .i64 0, .int .i64 0], .int .i64 3] := by
  unfold okPf; rw [if_neg h]; rfl
theorem isFr_iff {n d : Int} : isFr n d = true ↔ (-1000000000 ≤ n ∧ n ≤ 1000000000 ∧ 0 ≤ d ∧ d ≤ 1000000000 ∧ Int.gcd n d = 1 ∧ (0 < d ∨ n = 1)) := by
  unfold isFr; exact decide_eq_true_iff
theorem okP_fr {U V a b : Int} (hV : V ≠ 0) (h : okPf (rd U V) = some (a, b)) : isFr a b = true := by
  obtain ⟨h1, h2, h3⟩ := rd_spec (U := U) hV
  unfold okPf at h
  split at h
  · rename_i h4
    simp only [Option.some.injEq] at h
    rw [h] at h1 h2 h4
    rw [isFr_iff]
    simp only at *
    exact ⟨by omega, by omega, by omega, by omega, h2, .inl h1⟩
  · exact absurd h (by simp)
/-- Values of moves are fractions. -/
theorem mvO_fr {k f l n d a b : Int} (hx : isFr n d = true) (hm : isMoveB k f l = true) (h : mvO k f l n d = some (a, b)) : isFr a b = true := by
  have hm' : k = 2 ∧ 1 ≤ f ∧ f ≤ 20 ∧ 1 ≤ l ∧ l ≤ 20 ∨ (k = 0 ∨ k = 1) ∧ f = 0 ∧ l = 0 := by simpa [isMoveB] using hm
  rw [isFr_iff] at hx
  unfold mvO at h
  split at h
  · cases h; decide
  · split at h
    · cases h; decide
    · split at h
      · exact okP_fr (by omega) h
      · split at h
        · exact okP_fr (by omega) h
        · have := vV_pos (f := f.toNat) (l := l.toNat) (v := d) (by omega) (by omega) (by omega)
          exact okP_fr (by omega) h
end Go.Proofs.Ytlfpiegadaiafaa.Sep
end
section
/- The value of a move: what impl.move computes. -/
namespace Go.Proofs.Ytlfpiegadaiafaa.Sep
open Go.RowKit
set_option linter.unusedVariables false
set_option linter.unusedSimpArgs false
set_option maxRecDepth 20000
set_option maxHeartbeats 1000000

/-! ### Whether a list holds a number -/
theorem c_Index0 {l : List Int} {x : Int} (hl : l.length ≤ 1048576) : PSpec Try.prog 94 [.sl l.length (vi .i64 l), .int .i64 x] fun v => ∃ k : Int, v = .int .i64 k ∧ (0 ≤ k ↔ x ∈ l) ∧ -1 ≤ k ∧ k ≤ 1048576 := by
  refine slices_Index_int64_int64_i_f.f ?_
  simp (disch := first | omega | (simp only [LN]; omega)) only [↓EC, EW, seval, ↓reduceIte, false_imp_iff, slices_Index_int64_int64_i_F]
  refine LP_of (σ := Nat) 100000 [] (fun s => [.int .i64 s]) (fun s => [])
    (fun s => s ≤ l.length ∧ ∀ j, j < s → gi l j ≠ x) (fun s => l.length - s) 0 (by simp [frameOk, names, lpz, sclp, scv, scvs, vi_nrf, vb_nrf, vt_nrf, v2_nrf, v3_nrf, nrfs, nrf, sc_vi, sc_vb, sc_vt, sc_v2, sc_v3, sc_vo, sc_vl, vo_nrf, vl_nrf, sc_vn, vn_nrf]) ⟨Nat.zero_le _, fun j hj => absurd hj (Nat.not_lt_zero j)⟩ ?_ ?_
  · simp (disch := first | omega | (simp only [LN]; omega)) only [↓EC, EW, seval, ↓reduceIte, false_imp_iff, ColV_def]
  · rintro i ⟨h1, h2⟩
    simp (disch := first | omega | (simp only [LN]; omega)) only [↓EC, EW, seval, ↓reduceIte, false_imp_iff, ColV_def, lheap_def]
    (refine Split.mk (fun h => ?_) (fun h => ?_) <;> (try simp only [decide_eq_true_eq, decide_eq_false_iff_not, beq_iff_eq, bne_iff_ne, beq_eq_false_iff_ne, bne_eq_false_iff_eq, Bool.not_eq_true', Bool.not_eq_false', Bool.and_eq_true, Bool.or_eq_true, Bool.and_eq_false_iff, Bool.or_eq_false_iff, Int.not_lt, Int.not_le, Bool.false_eq_true, Bool.true_eq_false, false_and, and_false, true_and, and_true, or_false, false_or, or_true, true_or, not_true_eq_false, not_false_eq_true] at h))
    · (try simp (disch := first | omega | (simp only [LN]; omega)) only [↓EC, EW, seval, ↓reduceIte, false_imp_iff])
      (refine Split.mk (fun h => ?_) (fun h => ?_) <;> (try simp only [decide_eq_true_eq, decide_eq_false_iff_not, beq_iff_eq, bne_iff_ne, beq_eq_false_iff_ne, bne_eq_false_iff_eq, Bool.not_eq_true', Bool.not_eq_false', Bool.and_eq_true, Bool.or_eq_true, Bool.and_eq_false_iff, Bool.or_eq_false_iff, Int.not_lt, Int.not_le, Bool.false_eq_true, Bool.true_eq_false, false_and, and_false, true_and, and_true, or_false, false_or, or_true, true_or, not_true_eq_false, not_false_eq_true] at h))
      · (try simp (disch := first | omega | (simp only [LN]; omega)) only [↓EC, EW, seval, ↓reduceIte, false_imp_iff])
        refine ⟨i, rfl, ⟨fun _ => ?_, fun _ => by omega⟩, by omega, by omega⟩
        rw [h, gi_of (by omega)]
        exact List.getElem_mem _
      · (try simp (disch := first | omega | (simp only [LN]; omega)) only [↓EC, EW, seval, ↓reduceIte, false_imp_iff])
        refine ⟨i + 1, by simp, ⟨by omega, fun j hj => ?_⟩, by omega⟩
        by_cases e : j = i
        · subst e; exact fun h' => h h'.symm
        · exact h2 j (by omega)
    · (try simp (disch := first | omega | (simp only [LN]; omega)) only [↓EC, EW, seval, ↓reduceIte, false_imp_iff])
      refine ⟨-1, rfl, ⟨fun h => by omega, fun hx => ?_⟩, by omega, by omega⟩
      obtain ⟨j, hj, rfl⟩ := List.getElem_of_mem hx
      exact absurd (gi_of hj) (h2 j (by omega))
theorem c_Contains0 {l : List Int} {x : Int} {n : Nat} (hn : l.length = n) (hl : n ≤ 1048576) : PSpec Try.prog 85 [.sl n (vi .i64 l), .int .i64 x] fun v => v = .bool (decide (x ∈ l)) := by
  subst hn
  refine slices_Contains_int64_int64_i_f.f ?_
  simp (disch := first | omega | (simp only [LN]; omega)) only [↓EC, EW, seval, ↓reduceIte, false_imp_iff, slices_Contains_int64_int64_i_F]
  refine pcd_r (c_Index0 hl) ?_
  rintro _ ⟨k, rfl, h1, h2, h3⟩
  (try simp (disch := first | omega | (simp only [LN]; omega)) only [↓EC, EW, seval, ↓reduceIte, false_imp_iff])
  simp only [h1]

/-! ### Products -/
theorem lprod_snoc {l : List Int} {i : Nat} (h : i < l.length) : lprod (l.take (i + 1)) = lprod (l.take i) * gi l i := by
  rw [← List.take_append_getElem h, lprod_append, gi_of h]; simp [lprod]
theorem lprod_cut {l : List Int} (i : Nat) : lprod l = lprod (l.take i) * lprod (l.drop i) := by
  rw [← lprod_append, List.take_append_drop]
theorem mul_lim4 {a b : Int} (ha : a.natAbs ≤ 1000000000) (hb : b.natAbs ≤ 4000000000) : -4000000000000000000 ≤ a * b ∧ a * b ≤ 4000000000000000000 := by
  have h := Nat.mul_le_mul ha hb
  rw [← Int.natAbs_mul] at h
  omega
def prV (x : Int) : V := if x.natAbs ≤ 1000000000 then .tup [.int .i64 x, .bool true] else .tup [.int .i64 0, .bool false]
theorem c_impl_product {l : List Int} {n : Nat} (hn : l.length = n) (hl : n ≤ 1048576) (hb : ∀ a ∈ l, a ≠ 0 ∧ a.natAbs ≤ 4000000000) : PSpec Try.prog 86 [.sl n (vi .i64 l)] fun v => v = prV (lprod l) := by
  subst hn
  refine impl_product_f.f ?_
  simp (disch := first | omega | (simp only [LN]; omega)) only [↓EC, EW, seval, ↓reduceIte, false_imp_iff, impl_product_F]
  refine LP_of (σ := Nat) 100000 [] (fun s => [.int .i64 (lprod (l.take s)), .int .i64 s]) (fun s => [])
    (fun s => s ≤ l.length ∧ (lprod (l.take s)).natAbs ≤ 1000000000) (fun s => l.length - s) 0 (by simp [frameOk, names, lpz, sclp, scv, scvs, vi_nrf, vb_nrf, vt_nrf, v2_nrf, v3_nrf, nrfs, nrf, sc_vi, sc_vb, sc_vt, sc_v2, sc_v3, sc_vo, sc_vl, vo_nrf, vl_nrf, sc_vn, vn_nrf]) ⟨Nat.zero_le _, by simp [lprod]⟩ ?_ ?_
  · simp (disch := first | omega | (simp only [LN]; omega)) only [↓EC, EW, seval, ↓reduceIte, false_imp_iff, ColV_def]
    simp [lprod]
  · rintro i ⟨h1, h2⟩
    simp (disch := first | omega | (simp only [LN]; omega)) only [↓EC, EW, seval, ↓reduceIte, false_imp_iff, ColV_def, lheap_def]
    (refine Split.mk (fun h => ?_) (fun h => ?_) <;> (try simp only [decide_eq_true_eq, decide_eq_false_iff_not, beq_iff_eq, bne_iff_ne, beq_eq_false_iff_ne, bne_eq_false_iff_eq, Bool.not_eq_true', Bool.not_eq_false', Bool.and_eq_true, Bool.or_eq_true, Bool.and_eq_false_iff, Bool.or_eq_false_iff, Int.not_lt, Int.not_le, Bool.false_eq_true, Bool.true_eq_false, false_and, and_false, true_and, and_true, or_false, false_or, or_true, true_or, not_true_eq_false, not_false_eq_true] at h))
    · have hi : i < l.length := by omega
      have hg := hb (gi l i) (by rw [gi_of hi]; exact List.getElem_mem _)
      have hm := mul_lim4 h2 hg.2
      have hs := lprod_snoc hi
      have hbig : 1000000000 < (lprod (l.take i) * gi l i).natAbs → .tup [.int .i64 0, .bool false] = prV (lprod l) := by
        intro h3
        unfold prV
        rw [if_neg]
        rw [lprod_cut (l := l) (i + 1), hs]
        have := natAbs_le_mul (a := lprod (l.take i) * gi l i) (b := lprod (l.drop (i + 1))) (lprod_ne fun a ha => (hb a (List.mem_of_mem_drop ha)).1)
        omega
      (try simp (disch := first | omega | (simp only [LN]; omega)) only [↓EC, EW, seval, ↓reduceIte, false_imp_iff])
      repeat' (refine Split.mk (fun h => ?_) (fun h => ?_) <;> (try simp only [decide_eq_true_eq, decide_eq_false_iff_not, beq_iff_eq, bne_iff_ne, beq_eq_false_iff_ne, bne_eq_false_iff_eq, Bool.not_eq_true', Bool.not_eq_false', Bool.and_eq_true, Bool.or_eq_true, Bool.and_eq_false_iff, Bool.or_eq_false_iff, Int.not_lt, Int.not_le, Bool.false_eq_true, Bool.true_eq_false, false_and, and_false, true_and, and_true, or_false, false_or, or_true, true_or, not_true_eq_false, not_false_eq_true] at h))
      · (try simp (disch := first | omega | (simp only [LN]; omega)) only [↓EC, EW, seval, ↓reduceIte, false_imp_iff])
        exact hbig (by omega)
      · (try simp (disch := first | omega | (simp only [LN]; omega)) only [↓EC, EW, seval, ↓reduceIte, false_imp_iff])
        exact hbig (by omega)
      · (try simp (disch := first | omega | (simp only [LN]; omega)) only [↓EC, EW, seval, ↓reduceIte, false_imp_iff])
        exact ⟨i + 1, by rw [hs]; simp, ⟨by omega, by rw [hs]; omega⟩, by omega⟩
    · (try simp (disch := first | omega | (simp only [LN]; omega)) only [↓EC, EW, seval, ↓reduceIte, false_imp_iff])
      have : i = l.length := by omega
      subst this
      try rw [List.take_length] at h2
      unfold prV
      rw [if_pos h2]

theorem c_product_ok {l : List Int} {n : Nat} (hn : l.length = n) (hl : n ≤ 1048576) (hb : ∀ a ∈ l, a ≠ 0 ∧ a.natAbs ≤ 4000000000) (h : (lprod l).natAbs ≤ 1000000000) : PSpec Try.prog 86 [.sl n (vi .i64 l)] fun v => v = .tup [.int .i64 (lprod l), .bool true] := by
  have := c_impl_product hn hl hb
  unfold prV at this
  rwa [if_pos h] at this
theorem c_product_no {l : List Int} {n : Nat} (hn : l.length = n) (hl : n ≤ 1048576) (hb : ∀ a ∈ l, a ≠ 0 ∧ a.natAbs ≤ 4000000000) (h : ¬ (lprod l).natAbs ≤ 1000000000) : PSpec Try.prog 86 [.sl n (vi .i64 l)] fun v => v = .tup [.int .i64 0, .bool false] := by
  have := c_impl_product hn hl hb
  unfold prV at this
  rwa [if_neg h] at this

/-! ### The fraction of products -/
theorem Low_stepG {U V : Int} {xs bs : List Int} {i k : Nat} (h : Low U V xs bs i k) (hi : i < xs.length) (hk : k < bs.length) :
    Low U V (xs.set i ((gi xs i).tdiv (Int.gcd (gi xs i) (gi bs k) : Int))) (bs.set k ((gi bs k).tdiv (Int.gcd (gi xs i) (gi bs k) : Int))) i (k + 1) := by
  have h1 := Low_step h hi hk
  rw [gi_of hi, gi_of hk, Int.tdiv_eq_ediv_of_dvd (Int.gcd_dvd_left _ _), Int.tdiv_eq_ediv_of_dvd (Int.gcd_dvd_right _ _)]
  exact h1
def lim4 (l : List Int) : Prop := ∀ a ∈ l, a.natAbs ≤ 4000000000
theorem lim4_g {l : List Int} {i : Nat} (h : lim4 l) (hi : i < l.length) : (gi l i).natAbs ≤ 4000000000 := by
  rw [gi_of hi]; exact h _ (List.getElem_mem _)
theorem lim4_set {l : List Int} {i : Nat} {x : Int} (h : lim4 l) (hx : x.natAbs ≤ 4000000000) : lim4 (l.set i x) := by
  intro a ha
  rcases List.mem_or_eq_of_mem_set ha with h1 | h1
  · exact h _ h1
  · subst h1; exact hx
theorem c_impl_lowest {xs bs : List Int} (la : xs.length ≤ 1000) (lb : bs.length ≤ 1000) (ha : lim4 xs) (hb : lim4 bs) (hz : ∀ b ∈ bs, b ≠ 0) :
    PSpecM Try.prog 76 [.rf 0 0 xs.length, .rf 1 0 bs.length] [(0, 2, 1), (1, 2, 1)] [vi .i64 xs, vi .i64 bs] fun v c => v = frV (okPf (rd (lprod xs) (lprod bs))) ∧ ∃ x y, c = [vi .i64 x, vi .i64 y] := by
  have hV : lprod bs ≠ 0 := lprod_ne hz
  refine impl_lowest_f.m rfl rfl ?_
  simp (disch := first | omega | (simp only [LN]; omega)) only [↓EC, EW, seval, ↓reduceIte, false_imp_iff, impl_lowest_F]
  refine LP_of (σ := Nat × List Int × List Int) 100000 [(0, 2, 1), (1, 2, 1), (68, 27, 1)] (fun s => [.int .i64 s.1]) (fun s => [vi .i64 s.2.1, vi .i64 s.2.2, [.int .i64 0, .int .i64 0]])
    (fun s => s.1 ≤ xs.length ∧ s.2.1.length = xs.length ∧ s.2.2.length = bs.length ∧ lim4 s.2.1 ∧ lim4 s.2.2 ∧ Low (lprod xs) (lprod bs) s.2.1 s.2.2 s.1 0) (fun s => xs.length - s.1) (0, xs, bs) (by simp [frameOk, names, lpz, sclp, scv, scvs, vi_nrf, vb_nrf, vt_nrf, v2_nrf, v3_nrf, nrfs, nrf, sc_vi, sc_vb, sc_vt, sc_v2, sc_v3, sc_vo, sc_vl, vo_nrf, vl_nrf, sc_vn, vn_nrf])
    ⟨Nat.zero_le _, rfl, rfl, ha, hb, rfl, hz, fun p q _ _ h => by omega⟩ ?_ ?_
  · simp (disch := first | omega | (simp only [LN]; omega)) only [↓EC, EW, seval, ↓reduceIte, false_imp_iff, ColV_def]
  · rintro ⟨i, a, b⟩ ⟨h1, h2, h3, h4, h5, h6⟩
    simp only at h1 h2 h3 h4 h5 h6
    simp (disch := first | omega | (simp only [LN]; omega)) only [↓EC, EW, seval, ↓reduceIte, false_imp_iff, ColV_def, lheap_def]
    (refine Split.mk (fun h => ?_) (fun h => ?_) <;> (try simp only [decide_eq_true_eq, decide_eq_false_iff_not, beq_iff_eq, bne_iff_ne, beq_eq_false_iff_ne, bne_eq_false_iff_eq, Bool.not_eq_true', Bool.not_eq_false', Bool.and_eq_true, Bool.or_eq_true, Bool.and_eq_false_iff, Bool.or_eq_false_iff, Int.not_lt, Int.not_le, Bool.false_eq_true, Bool.true_eq_false, false_and, and_false, true_and, and_true, or_false, false_or, or_true, true_or, not_true_eq_false, not_false_eq_true] at h))
    · (try simp (disch := first | omega | (simp only [LN]; omega)) only [↓EC, EW, seval, ↓reduceIte, false_imp_iff])
      refine LP_of (σ := Nat × List Int × List Int) 200000 [(0, 2, 1), (1, 2, 1), (68, 27, 1)] (fun s => [.int .i64 s.1]) (fun s => [vi .i64 s.2.1, vi .i64 s.2.2, [.int .i64 0, .int .i64 0]])
        (fun s => s.1 ≤ bs.length ∧ s.2.1.length = xs.length ∧ s.2.2.length = bs.length ∧ lim4 s.2.1 ∧ lim4 s.2.2 ∧ Low (lprod xs) (lprod bs) s.2.1 s.2.2 i s.1) (fun s => bs.length - s.1) (0, a, b) (by simp [frameOk, names, lpz, sclp, scv, scvs, vi_nrf, vb_nrf, vt_nrf, v2_nrf, v3_nrf, nrfs, nrf, sc_vi, sc_vb, sc_vt, sc_v2, sc_v3, sc_vo, sc_vl, vo_nrf, vl_nrf, sc_vn, vn_nrf])
        ⟨Nat.zero_le _, h2, h3, h4, h5, h6⟩ ?_ ?_
      · simp (disch := first | omega | (simp only [LN]; omega)) only [↓EC, EW, seval, ↓reduceIte, false_imp_iff, ColV_def]
      · rintro ⟨k, a, b⟩ ⟨g1, g2, g3, g4, g5, g6⟩
        simp only at g1 g2 g3 g4 g5 g6
        simp (disch := first | omega | (simp only [LN]; omega)) only [↓EC, EW, seval, ↓reduceIte, false_imp_iff, ColV_def, lheap_def]
        (refine Split.mk (fun h => ?_) (fun h => ?_) <;> (try simp only [decide_eq_true_eq, decide_eq_false_iff_not, beq_iff_eq, bne_iff_ne, beq_eq_false_iff_ne, bne_eq_false_iff_eq, Bool.not_eq_true', Bool.not_eq_false', Bool.and_eq_true, Bool.or_eq_true, Bool.and_eq_false_iff, Bool.or_eq_false_iff, Int.not_lt, Int.not_le, Bool.false_eq_true, Bool.true_eq_false, false_and, and_false, true_and, and_true, or_false, false_or, or_true, true_or, not_true_eq_false, not_false_eq_true] at h))
        · have hi : i < a.length := by omega
          have hk : k < b.length := by omega
          have la := lim4_g g4 hi
          have lb := lim4_g g5 hk
          have hp := gcd_pos_r (a := gi a i) (b := gi b k) (by rw [gi_of hk]; exact g6.nz _ (List.getElem_mem _))
          have hs := Low_stepG g6 hi hk
          have t1 := Int.natAbs_tdiv_le_natAbs (gi a i) (Int.gcd (gi a i) (gi b k) : Int)
          have t2 := Int.natAbs_tdiv_le_natAbs (gi b k) (Int.gcd (gi a i) (gi b k) : Int)
          (try simp (disch := first | omega | (simp only [LN]; omega)) only [↓EC, EW, seval, ↓reduceIte, false_imp_iff])
          (refine pcd_v (c_impl_gcd (by omega) (by omega)) ?_; (try simp (disch := first | omega | (simp only [LN]; omega)) only [↓EC, EW, seval, ↓reduceIte, false_imp_iff]))
          (refine Split.mk (fun h => ?_) (fun h => ?_) <;> (try simp only [decide_eq_true_eq, decide_eq_false_iff_not, beq_iff_eq, bne_iff_ne, beq_eq_false_iff_ne, bne_eq_false_iff_eq, Bool.not_eq_true', Bool.not_eq_false', Bool.and_eq_true, Bool.or_eq_true, Bool.and_eq_false_iff, Bool.or_eq_false_iff, Int.not_lt, Int.not_le, Bool.false_eq_true, Bool.true_eq_false, false_and, and_false, true_and, and_true, or_false, false_or, or_true, true_or, not_true_eq_false, not_false_eq_true] at h))
          · (try simp (disch := first | omega | (simp only [LN]; omega)) only [↓EC, EW, seval, ↓reduceIte, false_imp_iff])
            exact ⟨(k + 1, _, _), by simp, rfl, ⟨by simp only; omega, by simpa using g2, by simpa using g3, lim4_set g4 (by omega), lim4_set g5 (by omega), hs⟩, by simp only; omega⟩
          · omega
        · (try simp (disch := first | omega | (simp only [LN]; omega)) only [↓EC, EW, seval, ↓reduceIte, false_imp_iff])
          have hk : k = b.length := by omega
          subst hk
          exact ⟨(i + 1, a, b), by simp, rfl, ⟨by simp only; omega, g2, g3, g4, g5, Low_next g6⟩, by simp only; omega⟩
    · (try simp (disch := first | omega | (simp only [LN]; omega)) only [↓EC, EW, seval, ↓reduceIte, false_imp_iff])
      have hi : i = a.length := by omega
      subst hi
      have e := Low_rd hV h6
      refine pcd_v (c_Contains0 (l := a) (n := xs.length) (by omega) (by omega)) ?_
      (try simp (disch := first | omega | (simp only [LN]; omega)) only [↓EC, EW, seval, ↓reduceIte, false_imp_iff])
      (refine Split.mk (fun h => ?_) (fun h => ?_) <;> (try simp only [decide_eq_true_eq, decide_eq_false_iff_not, beq_iff_eq, bne_iff_ne, beq_eq_false_iff_ne, bne_eq_false_iff_eq, Bool.not_eq_true', Bool.not_eq_false', Bool.and_eq_true, Bool.or_eq_true, Bool.and_eq_false_iff, Bool.or_eq_false_iff, Int.not_lt, Int.not_le, Bool.false_eq_true, Bool.true_eq_false, false_and, and_false, true_and, and_true, or_false, false_or, or_true, true_or, not_true_eq_false, not_false_eq_true] at h))
      · (try simp (disch := first | omega | (simp only [LN]; omega)) only [↓EC, EW, seval, ↓reduceIte, false_imp_iff])
        have hU : lprod xs = 0 := by
          have := h6.rat
          rw [lprod_zero h] at this
          rcases Int.mul_eq_zero.1 (this.symm.trans (by simp)) with h' | h'
          · exact h'
          · exact absurd h' (lprod_ne h6.nz)
        rw [hU, rd_zero hV, frV_ok (by decide)]
        exact ⟨rfl, _, _, rfl⟩
      · have na : ∀ x ∈ a, x ≠ 0 ∧ x.natAbs ≤ 4000000000 := fun x hx => ⟨fun h0 => h (h0 ▸ hx), h4 x hx⟩
        have nb : ∀ x ∈ b, x ≠ 0 ∧ x.natAbs ≤ 4000000000 := fun x hx => ⟨h6.nz x hx, h5 x hx⟩
        (try simp (disch := first | omega | (simp only [LN]; omega)) only [↓EC, EW, seval, ↓reduceIte, false_imp_iff])
        rw [e]
        by_cases q1 : (lprod a).natAbs ≤ 1000000000
        · refine pcd_v (c_product_ok (l := a) (n := xs.length) (by omega) (by omega) na q1) ?_
          (try simp (disch := first | omega | (simp only [LN]; omega)) only [↓EC, EW, seval, ↓reduceIte, false_imp_iff])
          by_cases q2 : (lprod b).natAbs ≤ 1000000000
          · have q3 := lprod_ne h6.nz
            refine pcd_v (c_product_ok (l := b) (n := bs.length) (by omega) (by omega) nb q2) ?_
            (try simp (disch := first | omega | (simp only [LN]; omega)) only [↓EC, EW, seval, ↓reduceIte, false_imp_iff])
            (refine Split.mk (fun h => ?_) (fun h => ?_) <;> (try simp only [decide_eq_true_eq, decide_eq_false_iff_not, beq_iff_eq, bne_iff_ne, beq_eq_false_iff_ne, bne_eq_false_iff_eq, Bool.not_eq_true', Bool.not_eq_false', Bool.and_eq_true, Bool.or_eq_true, Bool.and_eq_false_iff, Bool.or_eq_false_iff, Int.not_lt, Int.not_le, Bool.false_eq_true, Bool.true_eq_false, false_and, and_false, true_and, and_true, or_false, false_or, or_true, true_or, not_true_eq_false, not_false_eq_true] at h))
            · (try simp (disch := first | omega | (simp only [LN]; omega)) only [↓EC, EW, seval, ↓reduceIte, false_imp_iff])
              rw [if_pos (by omega), frV_ok (by simp only; omega)]
              exact ⟨rfl, _, _, rfl⟩
            · (try simp (disch := first | omega | (simp only [LN]; omega)) only [↓EC, EW, seval, ↓reduceIte, false_imp_iff])
              rw [if_neg (by omega), frV_ok (by simp only; omega)]
              exact ⟨rfl, _, _, rfl⟩
          · refine pcd_v (c_product_no (l := b) (n := bs.length) (by omega) (by omega) nb q2) ?_
            (try simp (disch := first | omega | (simp only [LN]; omega)) only [↓EC, EW, seval, ↓reduceIte, false_imp_iff])
            rw [frV_no (by split <;> simp only <;> omega)]
            exact ⟨rfl, _, _, rfl⟩
        · refine pcd_v (c_product_no (l := a) (n := xs.length) (by omega) (by omega) na q1) ?_
          (try simp (disch := first | omega | (simp only [LN]; omega)) only [↓EC, EW, seval, ↓reduceIte, false_imp_iff])
          rw [frV_no (by split <;> simp only <;> omega)]
          by_cases q2 : (lprod b).natAbs ≤ 1000000000
          · refine pcd_v (c_product_ok (l := b) (n := bs.length) (by omega) (by omega) nb q2) ?_
            (try simp (disch := first | omega | (simp only [LN]; omega)) only [↓EC, EW, seval, ↓reduceIte, false_imp_iff])
            exact ⟨_, _, rfl⟩
          · refine pcd_v (c_product_no (l := b) (n := bs.length) (by omega) (by omega) nb q2) ?_
            (try simp (disch := first | omega | (simp only [LN]; omega)) only [↓EC, EW, seval, ↓reduceIte, false_imp_iff])
            exact ⟨_, _, rfl⟩
end Go.Proofs.Ytlfpiegadaiafaa.Sep
end
section
/- The value of a move: impl.move. -/
namespace Go.Proofs.Ytlfpiegadaiafaa.Sep
open Go.RowKit
set_option linter.unusedVariables false
set_option linter.unusedSimpArgs false
set_option maxRecDepth 20000
set_option maxHeartbeats 4000000

theorem callM_q {P : Program} {f : FuncId} {d : Nat} {h : Hp} {K : V → Hp → Prop} {bs : List Nat} {bx : List (Nat × TypeId × Nat)} {cells : List (List V)} {ws : List V} {Φ : V → List (List V) → Prop}
    (hs : PSpecM P f ws bx cells Φ) (hK : ∀ v cs, Φ v cs → K (vw v) (hputs2 h bs bx cs)) : CallM P f d h K bs bx cells ws := ⟨Φ, hs, .inl hK⟩
def alt : Nat → Int → Int → List Int
  | 0, _, _ => []
  | i + 1, a, b => alt i a b ++ [a, b]
theorem alt_len {i : Nat} {a b : Int} : (alt i a b).length = 2 * i := by
  induction i with
  | zero => rfl
  | succ i ih => simp [alt, ih]; omega
theorem alt_mem {i : Nat} {a b x : Int} (h : x ∈ alt i a b) : x = a ∨ x = b := by
  induction i with
  | zero => simp [alt] at h
  | succ i ih =>
    simp only [alt, List.mem_append, List.mem_cons, List.not_mem_nil, or_false] at h
    rcases h with h | h
    · exact ih h
    · exact h
theorem alt_prod {i : Nat} {a b : Int} : lprod (alt i a b) = a ^ i * b ^ i := by
  induction i with
  | zero => simp [alt, lprod]
  | succ i ih => simp only [alt, lprod_append, ih, lprod, Int.pow_succ, Int.mul_one]; ac_rfl
theorem frV_cases (o : Option (Int × Int)) : (∃ a b, o = some (a, b)) ∨ o = none := by
  rcases o with _ | ⟨a, b⟩
  · exact .inr rfl
  · exact .inl ⟨a, b, rfl⟩
theorem lprod_one {a : Int} : lprod [a] = a := by simp [lprod]

theorem mvO_0 {n d : Int} (h : d ≠ 0) : mvO 0 0 0 n d = okPf (rd (d - n) d) := by
  unfold mvO; simp [h]
theorem mvO_1 {n d : Int} (h : d ≠ 0) (hn : n ≠ 0) : mvO 1 0 0 n d = okPf (rd d n) := by
  unfold mvO; simp [h, hn]
theorem mvO_2 {f l n d : Int} (h : d ≠ 0) : mvO 2 f l n d = okPf (rd (vU f.toNat l.toNat n d) (vV f.toNat l.toNat d)) := by
  unfold mvO; simp [h]
theorem c_impl_move {k f l n d : Int} (hm : isMoveB k f l = true) (hx : isFr n d = true) :
    PSpec Try.prog 55 [.agg [.int .i64 k, .int .i64 f, .int .i64 l], .agg [.int .i64 n, .int .i64 d]] fun v => v = frV (mvO k f l n d) := by
  have hm' : k = 2 ∧ 1 ≤ f ∧ f ≤ 20 ∧ 1 ≤ l ∧ l ≤ 20 ∨ (k = 0 ∨ k = 1) ∧ f = 0 ∧ l = 0 := by simpa [isMoveB] using hm
  have hx' := isFr_iff.1 hx
  refine impl_move_f.f ?_
  rcases hm' with ⟨rfl, f1, f2, l1, l2⟩ | ⟨rfl | rfl, rfl, rfl⟩
  · simp (disch := first | omega | (simp only [LN]; omega)) only [↓EC, EW, seval, ↓reduceIte, false_imp_iff, impl_move_F]
    (refine Split.mk (fun h => ?_) (fun h => ?_) <;> (try simp only [decide_eq_true_eq, decide_eq_false_iff_not, beq_iff_eq, bne_iff_ne, beq_eq_false_iff_ne, bne_eq_false_iff_eq, Bool.not_eq_true', Bool.not_eq_false', Bool.and_eq_true, Bool.or_eq_true, Bool.and_eq_false_iff, Bool.or_eq_false_iff, Int.not_lt, Int.not_le, Bool.false_eq_true, Bool.true_eq_false, false_and, and_false, true_and, and_true, or_false, false_or, or_true, true_or, not_true_eq_false, not_false_eq_true] at h))
    · unfold mvO; simp [h]; rfl
    · (try simp (disch := first | omega | (simp only [LN]; omega)) only [↓EC, EW, seval, ↓reduceIte, false_imp_iff])
      obtain ⟨F, rfl⟩ : ∃ F : Nat, f = F := ⟨f.toNat, by omega⟩
      obtain ⟨L, rfl⟩ : ∃ L : Nat, l = L := ⟨l.toNat, by omega⟩
      refine LP_ofE (σ := Nat) [1, 1] 100000 [(66, 36, 1), (67, 27, 1), (68, 27, 1), (70, 27, 1)]
        (fun s => [.own 2 1 (2 * s) (vi .i64 (alt s n (F + L))), .own 2 1 (2 * s) (vi .i64 (alt s d F)), .int .i64 s]) (fun s => [[.int .i64 2, .int .i64 F, .int .i64 L], [.int .i64 n, .int .i64 d], [.int .i64 0, .int .i64 0], [.int .i64 1, .int .i64 0]])
        (fun s => s ≤ F) (fun s => F - s) 0 (by simp [frameOk, names, lpz, sclp, scv, scvs, vi_nrf, vb_nrf, vt_nrf, v2_nrf, v3_nrf, nrfs, nrf, sc_vi, sc_vb, sc_vt, sc_v2, sc_v3, sc_vo, sc_vl, vo_nrf, vl_nrf, sc_vn, vn_nrf]) (Nat.zero_le _) ?_ ?_
      · simp (disch := first | omega | (simp only [LN]; omega)) only [↓EC, EW, seval, ↓reduceIte, false_imp_iff, ColV_def]
        exact ⟨fun _ => trivial, fun _ => trivial, rfl⟩
      · rintro s h1
        have q1 := alt_len (i := s) (a := n) (b := F + L)
        have q2 := alt_len (i := s) (a := d) (b := F)
        simp (disch := first | omega | (simp only [LN]; omega)) only [↓EC, EW, seval, ↓reduceIte, false_imp_iff, ColV_def, lheap_def, q1, q2]
        (refine Split.mk (fun h => ?_) (fun h => ?_) <;> (try simp only [decide_eq_true_eq, decide_eq_false_iff_not, beq_iff_eq, bne_iff_ne, beq_eq_false_iff_ne, bne_eq_false_iff_eq, Bool.not_eq_true', Bool.not_eq_false', Bool.and_eq_true, Bool.or_eq_true, Bool.and_eq_false_iff, Bool.or_eq_false_iff, Int.not_lt, Int.not_le, Bool.false_eq_true, Bool.true_eq_false, false_and, and_false, true_and, and_true, or_false, false_or, or_true, true_or, not_true_eq_false, not_false_eq_true] at h))
        · (try simp (disch := first | omega | (simp only [LN]; omega)) only [↓EC, EW, seval, ↓reduceIte, false_imp_iff, q1, q2])
          exact ⟨s + 1, by simp [alt, vi, Nat.mul_add], by omega, by omega⟩
        · have hs : s = F := by omega
          subst hs
          refine LP_ofE (σ := Nat) [1, 1] 200000 [(66, 36, 1), (67, 27, 1), (68, 27, 1), (70, 27, 1)]
            (fun i => [.own 2 1 (2 * s + 2 * i) (vi .i64 (alt s n (s + L) ++ alt i (d - n) (s + L))), .own 2 1 (2 * s + 2 * i) (vi .i64 (alt s d s ++ alt i d L)), .int .i64 i]) (fun i => [[.int .i64 2, .int .i64 s, .int .i64 L], [.int .i64 n, .int .i64 d], [.int .i64 0, .int .i64 0], [.int .i64 1, .int .i64 0]])
            (fun i => i ≤ L) (fun i => L - i) 0 (by simp [frameOk, names, lpz, sclp, scv, scvs, vi_nrf, vb_nrf, vt_nrf, v2_nrf, v3_nrf, nrfs, nrf, sc_vi, sc_vb, sc_vt, sc_v2, sc_v3, sc_vo, sc_vl, vo_nrf, vl_nrf, sc_vn, vn_nrf]) (Nat.zero_le _) ?_ ?_
          · simp (disch := first | omega | (simp only [LN]; omega)) only [↓EC, EW, seval, ↓reduceIte, false_imp_iff, ColV_def, q1, q2]
            simp [alt]
          · rintro i g1
            have r1 := alt_len (i := i) (a := d - n) (b := s + L)
            have r2 := alt_len (i := i) (a := d) (b := L)
            simp (disch := first | omega | (simp only [LN]; omega)) only [↓EC, EW, seval, ↓reduceIte, false_imp_iff, ColV_def, lheap_def, q1, q2, r1, r2]
            (refine Split.mk (fun h => ?_) (fun h => ?_) <;> (try simp only [decide_eq_true_eq, decide_eq_false_iff_not, beq_iff_eq, bne_iff_ne, beq_eq_false_iff_ne, bne_eq_false_iff_eq, Bool.not_eq_true', Bool.not_eq_false', Bool.and_eq_true, Bool.or_eq_true, Bool.and_eq_false_iff, Bool.or_eq_false_iff, Int.not_lt, Int.not_le, Bool.false_eq_true, Bool.true_eq_false, false_and, and_false, true_and, and_true, or_false, false_or, or_true, true_or, not_true_eq_false, not_false_eq_true] at h))
            · (try simp (disch := first | omega | (simp only [LN]; omega)) only [↓EC, EW, seval, ↓reduceIte, false_imp_iff, q1, q2, r1, r2])
              exact ⟨i + 1, by simp [alt, vi, Nat.mul_add, Nat.add_assoc], by omega, by omega⟩
            · have hi : i = L := by omega
              subst hi
              (try simp (disch := first | omega | (simp only [LN]; omega)) only [↓EC, EW, seval, ↓reduceIte, false_imp_iff, q1, q2, r1, r2])
              refine pcm [200000, 201000] rfl ?_
              (try simp (disch := first | omega | (simp only [LN]; omega)) only [↓EC, EW, seval, ↓reduceIte, false_imp_iff, q1, q2, r1, r2])
              have hl1 : (alt s n (s + i) ++ alt i (d - n) (s + i)).length = 2 * s + 2 * i := by rw [List.length_append, q1, r1]
              have hl2 : (alt s d s ++ alt i d i).length = 2 * s + 2 * i := by rw [List.length_append, q2, r2]
              have hc := c_impl_lowest (xs := alt s n (s + i) ++ alt i (d - n) (s + i)) (bs := alt s d s ++ alt i d i) (by omega) (by omega)
                (fun a ha => by
                  rcases List.mem_append.1 ha with h' | h' <;> rcases alt_mem h' with rfl | rfl <;> omega)
                (fun a ha => by
                  rcases List.mem_append.1 ha with h' | h' <;> rcases alt_mem h' with rfl | rfl <;> omega)
                (fun a ha => by
                  rcases List.mem_append.1 ha with h' | h' <;> rcases alt_mem h' with rfl | rfl <;> omega)
              rw [hl1, hl2] at hc
              refine callM_q hc ?_
              rintro v c ⟨rfl, x, y, rfl⟩
              rw [mvO_2 (by assumption)]
              have e : rd (lprod (alt s n (s + i) ++ alt i (d - n) (s + i))) (lprod (alt s d s ++ alt i d i)) = rd (vU (s : Int).toNat (i : Int).toNat n d) (vV (s : Int).toNat (i : Int).toNat d) := by
                simp only [lprod_append, alt_prod, Int.toNat_natCast, vU, vV, Int.pow_add]
                congr 1 <;> ac_rfl
              rw [e]
              rcases frV_cases (okPf (rd (vU (s : Int).toNat (i : Int).toNat n d) (vV (s : Int).toNat (i : Int).toNat d))) with ⟨a, b, ho⟩ | ho <;> rw [ho] <;> (try simp (disch := first | omega | (simp only [LN]; omega)) only [↓EC, EW, seval, ↓reduceIte, false_imp_iff, frV])
  · simp (disch := first | omega | (simp only [LN]; omega)) only [↓EC, EW, seval, ↓reduceIte, false_imp_iff, impl_move_F]
    (refine Split.mk (fun h => ?_) (fun h => ?_) <;> (try simp only [decide_eq_true_eq, decide_eq_false_iff_not, beq_iff_eq, bne_iff_ne, beq_eq_false_iff_ne, bne_eq_false_iff_eq, Bool.not_eq_true', Bool.not_eq_false', Bool.and_eq_true, Bool.or_eq_true, Bool.and_eq_false_iff, Bool.or_eq_false_iff, Int.not_lt, Int.not_le, Bool.false_eq_true, Bool.true_eq_false, false_and, and_false, true_and, and_true, or_false, false_or, or_true, true_or, not_true_eq_false, not_false_eq_true] at h))
    · unfold mvO; simp [h]; rfl
    · (try simp (disch := first | omega | (simp only [LN]; omega)) only [↓EC, EW, seval, ↓reduceIte, false_imp_iff])
      refine pcm [110, 113] rfl ?_
      (try simp (disch := first | omega | (simp only [LN]; omega)) only [↓EC, EW, seval, ↓reduceIte, false_imp_iff])
      refine callM_q (c_impl_lowest (xs := [d - n]) (bs := [d]) (by simp) (by simp) (by simp [lim4]; omega) (by simp [lim4]; omega) (by simpa using h)) ?_
      rintro v c ⟨rfl, x, y, rfl⟩
      rw [lprod_one, lprod_one, mvO_0 h]
      rcases frV_cases (okPf (rd (d - n) d)) with ⟨a, b, ho⟩ | ho <;> rw [ho] <;> (try simp (disch := first | omega | (simp only [LN]; omega)) only [↓EC, EW, seval, ↓reduceIte, false_imp_iff, frV])
  · simp (disch := first | omega | (simp only [LN]; omega)) only [↓EC, EW, seval, ↓reduceIte, false_imp_iff, impl_move_F]
    (refine Split.mk (fun h => ?_) (fun h => ?_) <;> (try simp only [decide_eq_true_eq, decide_eq_false_iff_not, beq_iff_eq, bne_iff_ne, beq_eq_false_iff_ne, bne_eq_false_iff_eq, Bool.not_eq_true', Bool.not_eq_false', Bool.and_eq_true, Bool.or_eq_true, Bool.and_eq_false_iff, Bool.or_eq_false_iff, Int.not_lt, Int.not_le, Bool.false_eq_true, Bool.true_eq_false, false_and, and_false, true_and, and_true, or_false, false_or, or_true, true_or, not_true_eq_false, not_false_eq_true] at h))
    · unfold mvO; simp [h]; rfl
    · (try simp (disch := first | omega | (simp only [LN]; omega)) only [↓EC, EW, seval, ↓reduceIte, false_imp_iff])
      (refine Split.mk (fun h => ?_) (fun h => ?_) <;> (try simp only [decide_eq_true_eq, decide_eq_false_iff_not, beq_iff_eq, bne_iff_ne, beq_eq_false_iff_ne, bne_eq_false_iff_eq, Bool.not_eq_true', Bool.not_eq_false', Bool.and_eq_true, Bool.or_eq_true, Bool.and_eq_false_iff, Bool.or_eq_false_iff, Int.not_lt, Int.not_le, Bool.false_eq_true, Bool.true_eq_false, false_and, and_false, true_and, and_true, or_false, false_or, or_true, true_or, not_true_eq_false, not_false_eq_true] at h))
      · exact absurd h (by assumption)
      · (try simp (disch := first | omega | (simp only [LN]; omega)) only [↓EC, EW, seval, ↓reduceIte, false_imp_iff])
        (refine Split.mk (fun h => ?_) (fun h => ?_) <;> (try simp only [decide_eq_true_eq, decide_eq_false_iff_not, beq_iff_eq, bne_iff_ne, beq_eq_false_iff_ne, bne_eq_false_iff_eq, Bool.not_eq_true', Bool.not_eq_false', Bool.and_eq_true, Bool.or_eq_true, Bool.and_eq_false_iff, Bool.or_eq_false_iff, Int.not_lt, Int.not_le, Bool.false_eq_true, Bool.true_eq_false, false_and, and_false, true_and, and_true, or_false, false_or, or_true, true_or, not_true_eq_false, not_false_eq_true] at h))
        · unfold mvO; simp [h, *]; rfl
        · (try simp (disch := first | omega | (simp only [LN]; omega)) only [↓EC, EW, seval, ↓reduceIte, false_imp_iff])
          refine pcm [123, 126] rfl ?_
          (try simp (disch := first | omega | (simp only [LN]; omega)) only [↓EC, EW, seval, ↓reduceIte, false_imp_iff])
          refine callM_q (c_impl_lowest (xs := [d]) (bs := [n]) (by simp) (by simp) (by simp [lim4]; omega) (by simp [lim4]; omega) (by simpa using h)) ?_
          rintro v c ⟨rfl, x, y, rfl⟩
          rw [lprod_one, lprod_one, mvO_1 (by assumption) h]
          rcases frV_cases (okPf (rd d n)) with ⟨a, b, ho⟩ | ho <;> rw [ho] <;> (try simp (disch := first | omega | (simp only [LN]; omega)) only [↓EC, EW, seval, ↓reduceIte, false_imp_iff, frV])
end Go.Proofs.Ytlfpiegadaiafaa.Sep
end
section
/- The value of a move: what spec.l10At computes. -/
namespace Go.Proofs.Ytlfpiegadaiafaa.Sep
open Go.RowKit
set_option linter.unusedVariables false
set_option linter.unusedSimpArgs false
set_option maxRecDepth 20000
set_option maxHeartbeats 2000000

/-! ### Least terms -/
theorem num_rd {U V : Int} (hV : V ≠ 0) : numOf U V = (rd U V).1 ∧ denOf U V = (rd U V).2 := by
  have hg : gOf U V ≠ 0 := gOf_ne (.inr hV)
  have hd : gOf U V ∣ V := by
    have := Int.gcd_dvd_right (a := U) (b := V)
    rw [← gOf_abs] at this
    exact Int.natAbs_dvd.1 this
  have hu : gOf U V ∣ U := by
    have := Int.gcd_dvd_left (a := U) (b := V)
    rw [← gOf_abs] at this
    exact Int.natAbs_dvd.1 this
  have e1 : gOf U V * denOf U V = V := Int.mul_tdiv_cancel' hd
  have e2 : gOf U V * numOf U V = U := Int.mul_tdiv_cancel' hu
  have h0 := denOf_nn (n := U) (d := V)
  have h1 : denOf U V ≠ 0 := by intro h; rw [h] at e1; simp at e1; exact hV e1.symm
  have h2 := gcd_dvd_tdiv (n := U) (d := V) hg gOf_abs
  have h3 : rd U V = (numOf U V, denOf U V) := by
    refine rd_eq hV (by omega) h2 ?_
    calc numOf U V * V = numOf U V * (gOf U V * denOf U V) := by rw [e1]
      _ = (gOf U V * numOf U V) * denOf U V := by ac_rfl
      _ = U * denOf U V := by rw [e2]
  rw [h3]; exact ⟨rfl, rfl⟩

/-! ### Products of two fractions -/
theorem cop_parts {x y : Int} (hy : 0 < y) : cop (x / (Int.gcd x y : Int)) (y / (Int.gcd x y : Int)) := by
  have hg := gcd_pos_r (a := x) (b := y) (by omega)
  have h := gcd_dvd_tdiv (n := x) (d := y) (g := (Int.gcd x y : Int)) (by omega) (by simp)
  rw [Int.tdiv_eq_ediv_of_dvd (Int.gcd_dvd_left _ _), Int.tdiv_eq_ediv_of_dvd (Int.gcd_dvd_right _ _)] at h
  exact h
theorem times_rd {xn xd yn yd : Int} (hx : 0 < xd) (hy : 0 < yd) (cx : cop xn xd) (cy : cop yn yd) :
    rd (xn * yn) (xd * yd) = (xn.tdiv (Int.gcd xn yd : Int) * yn.tdiv (Int.gcd yn xd : Int), xd.tdiv (Int.gcd yn xd : Int) * yd.tdiv (Int.gcd xn yd : Int)) := by
  have ga := gcd_pos_r (a := xn) (b := yd) (by omega)
  have gb := gcd_pos_r (a := yn) (b := xd) (by omega)
  have c1 := cop_parts (x := xn) hy
  have c2 := cop_parts (x := yn) hx
  rw [Int.tdiv_eq_ediv_of_dvd (Int.gcd_dvd_left xn yd), Int.tdiv_eq_ediv_of_dvd (Int.gcd_dvd_left yn xd), Int.tdiv_eq_ediv_of_dvd (Int.gcd_dvd_right yn xd), Int.tdiv_eq_ediv_of_dvd (Int.gcd_dvd_right xn yd)]
  obtain ⟨p, hp⟩ := Int.gcd_dvd_left xn yd
  obtain ⟨q, hq⟩ := Int.gcd_dvd_right xn yd
  obtain ⟨r, hr⟩ := Int.gcd_dvd_left yn xd
  obtain ⟨s, hs⟩ := Int.gcd_dvd_right yn xd
  generalize hA : (Int.gcd xn yd : Int) = a at *
  generalize hB : (Int.gcd yn xd : Int) = b at *
  have e1 : xn / a = p := by rw [hp]; exact Int.mul_ediv_cancel_left _ (by omega)
  have e2 : yd / a = q := by rw [hq]; exact Int.mul_ediv_cancel_left _ (by omega)
  have e3 : yn / b = r := by rw [hr]; exact Int.mul_ediv_cancel_left _ (by omega)
  have e4 : xd / b = s := by rw [hs]; exact Int.mul_ediv_cancel_left _ (by omega)
  rw [e1, e2] at c1
  rw [e3, e4] at c2
  rw [e1, e2, e3, e4]
  have q0 : 0 < q := Int.pos_of_mul_pos_right (a := a) (by rw [← hq]; exact hy) (by omega)
  have s0 : 0 < s := Int.pos_of_mul_pos_right (a := b) (by rw [← hs]; exact hx) (by omega)
  have c3 : cop p s := cop_dvd_l (cop_dvd_r cx ⟨b, by rw [hs]; ac_rfl⟩) ⟨a, by rw [hp]; ac_rfl⟩
  have c4 : cop r q := cop_dvd_l (cop_dvd_r cy ⟨a, by rw [hq]; ac_rfl⟩) ⟨b, by rw [hr]; ac_rfl⟩
  have hxy := Int.mul_pos hx hy
  refine rd_eq (by omega) (Int.mul_pos s0 q0) (cop_mul_l (cop_mul_r c3 c1) (cop_mul_r c2 c4)) ?_
  rw [hp, hq, hr, hs]
  ac_rfl
theorem mul_limN {a b : Int} {A B : Nat} (ha : a.natAbs ≤ A) (hb : b.natAbs ≤ B) : (a * b).natAbs ≤ A * B := by
  rw [Int.natAbs_mul]; exact Nat.mul_le_mul ha hb
theorem c_spec_l10Times {xn xd yn yd : Int} (hx : 0 < xd) (hy : 0 < yd) (cx : cop xn xd) (cy : cop yn yd) (b1 : xn.natAbs ≤ 4000000000) (b2 : xd ≤ 4000000000) (b3 : yn.natAbs ≤ 1000) (b4 : yd ≤ 1000) :
    PSpec Try.prog 87 [.agg [.int .i64 xn, .int .i64 xd], .agg [.int .i64 yn, .int .i64 yd]] fun v => v = .tup [.agg [.int .i64 (rd (xn * yn) (xd * yd)).1, .int .i64 (rd (xn * yn) (xd * yd)).2], .bool (isFr (rd (xn * yn) (xd * yd)).1 (rd (xn * yn) (xd * yd)).2)] := by
  have ga := gcd_pos_r (a := xn) (b := yd) (by omega)
  have gb := gcd_pos_r (a := yn) (b := xd) (by omega)
  have t1 := Int.natAbs_tdiv_le_natAbs xn (Int.gcd xn yd : Int)
  have t2 := Int.natAbs_tdiv_le_natAbs yn (Int.gcd yn xd : Int)
  have t3 := Int.natAbs_tdiv_le_natAbs xd (Int.gcd yn xd : Int)
  have t4 := Int.natAbs_tdiv_le_natAbs yd (Int.gcd xn yd : Int)
  have m1 := mul_limN (a := xn.tdiv (Int.gcd xn yd : Int)) (b := yn.tdiv (Int.gcd yn xd : Int)) (A := 4000000000) (B := 1000) (by omega) (by omega)
  have m2 := mul_limN (a := xd.tdiv (Int.gcd yn xd : Int)) (b := yd.tdiv (Int.gcd xn yd : Int)) (A := 4000000000) (B := 1000) (by omega) (by omega)
  have e := times_rd hx hy cx cy
  refine spec_l10Times_f.f ?_
  simp (disch := first | omega | (simp only [LN]; omega)) only [↓EC, EW, seval, ↓reduceIte, false_imp_iff, spec_l10Times_F]
  (refine pcd_v (c_spec_l10Common (by omega) (by omega)) ?_; (try simp (disch := first | omega | (simp only [LN]; omega)) only [↓EC, EW, seval, ↓reduceIte, false_imp_iff]))
  (refine pcd_v (c_spec_l10Common (by omega) (by omega)) ?_; (try simp (disch := first | omega | (simp only [LN]; omega)) only [↓EC, EW, seval, ↓reduceIte, false_imp_iff]))
  have hxy := Int.mul_pos hx hy
  have z : xn = 0 ∨ yn = 0 → (.tup [.agg [.int .i64 0, .int .i64 1], .bool true] : V) = .tup [.agg [.int .i64 (rd (xn * yn) (xd * yd)).1, .int .i64 (rd (xn * yn) (xd * yd)).2], .bool (isFr (rd (xn * yn) (xd * yd)).1 (rd (xn * yn) (xd * yd)).2)] := by
    intro h
    have : xn * yn = 0 := by rcases h with rfl | rfl <;> simp
    rw [this, rd_zero (by omega)]
    rfl
  repeat' (refine Split.mk (fun h => ?_) (fun h => ?_) <;> (try simp only [decide_eq_true_eq, decide_eq_false_iff_not, beq_iff_eq, bne_iff_ne, beq_eq_false_iff_ne, bne_eq_false_iff_eq, Bool.not_eq_true', Bool.not_eq_false', Bool.and_eq_true, Bool.or_eq_true, Bool.and_eq_false_iff, Bool.or_eq_false_iff, Int.not_lt, Int.not_le, Bool.false_eq_true, Bool.true_eq_false, false_and, and_false, true_and, and_true, or_false, false_or, or_true, true_or, not_true_eq_false, not_false_eq_true] at h))
  · exact z (.inl (by assumption))
  · exact z (.inr (by assumption))
  · (try simp (disch := first | omega | (simp only [LN]; omega)) only [↓EC, EW, seval, ↓reduceIte, false_imp_iff])
    (refine pcd_v (c_spec_l10Is) ?_; (try simp (disch := first | omega | (simp only [LN]; omega)) only [↓EC, EW, seval, ↓reduceIte, false_imp_iff]))
    rw [e]
end Go.Proofs.Ytlfpiegadaiafaa.Sep
end
section
/- Products of powers, prime by prime: spec.l10Product. -/
namespace Go.Proofs.Ytlfpiegadaiafaa.Sep
open Go.RowKit
set_option linter.unusedVariables false
set_option linter.unusedSimpArgs false
set_option maxRecDepth 20000
set_option maxHeartbeats 4000000

/-! ### A prime divisor -/
def one9 (l : List Int) : Prop := ∀ j, j < l.length → 0 < gi l j ∧ gi l j ≤ 1000000000
theorem tmod_dvd {a b : Int} : a.tmod b = 0 ↔ b ∣ a := ⟨Int.dvd_of_tmod_eq_zero, Int.tmod_eq_zero_of_dvd⟩
def prR (l : List Int) (p : Int) : Prop := p = 0 ∧ (∀ j, j < 4 → gi l j = 1) ∨ isP p ∧ p ≤ 1000000000 ∧ ∃ j, j < 4 ∧ p ∣ gi l j
theorem c_spec_l10Prime {l : List Int} (h4 : l.length = 4) (hl : one9 l) : PSpec Try.prog 95 [.sl 4 (vi .i64 l)] fun v => ∃ p : Int, v = .int .i64 p ∧ prR l p := by
  refine spec_l10Prime_f.f ?_
  simp (disch := first | omega | (simp only [LN]; omega)) only [↓EC, EW, seval, ↓reduceIte, false_imp_iff, spec_l10Prime_F]
  refine LP_of (σ := Nat) 100000 [] (fun s => [.int .i64 s]) (fun s => [])
    (fun s => s ≤ 4 ∧ ∀ j, j < s → gi l j = 1) (fun s => 4 - s) 0 (by simp [frameOk, names, lpz, sclp, scv, scvs, vi_nrf, vb_nrf, vt_nrf, v2_nrf, v3_nrf, nrfs, nrf, sc_vi, sc_vb, sc_vt, sc_v2, sc_v3, sc_vo, sc_vl, vo_nrf, vl_nrf, sc_vn, vn_nrf]) ⟨by omega, fun j hj => absurd hj (Nat.not_lt_zero j)⟩ ?_ ?_
  · simp (disch := first | omega | (simp only [LN]; omega)) only [↓EC, EW, seval, ↓reduceIte, false_imp_iff, ColV_def]
  · rintro i ⟨h1, h2⟩
    simp (disch := first | omega | (simp only [LN]; omega)) only [↓EC, EW, seval, ↓reduceIte, false_imp_iff, ColV_def, lheap_def]
    (refine Split.mk (fun h => ?_) (fun h => ?_) <;> (try simp only [decide_eq_true_eq, decide_eq_false_iff_not, beq_iff_eq, bne_iff_ne, beq_eq_false_iff_ne, bne_eq_false_iff_eq, Bool.not_eq_true', Bool.not_eq_false', Bool.and_eq_true, Bool.or_eq_true, Bool.and_eq_false_iff, Bool.or_eq_false_iff, Int.not_lt, Int.not_le, Bool.false_eq_true, Bool.true_eq_false, false_and, and_false, true_and, and_true, or_false, false_or, or_true, true_or, not_true_eq_false, not_false_eq_true] at h))
    · obtain ⟨g1, g2⟩ := hl i (by omega)
      (try simp (disch := first | omega | (simp only [LN]; omega)) only [↓EC, EW, seval, ↓reduceIte, false_imp_iff])
      (refine Split.mk (fun h => ?_) (fun h => ?_) <;> (try simp only [decide_eq_true_eq, decide_eq_false_iff_not, beq_iff_eq, bne_iff_ne, beq_eq_false_iff_ne, bne_eq_false_iff_eq, Bool.not_eq_true', Bool.not_eq_false', Bool.and_eq_true, Bool.or_eq_true, Bool.and_eq_false_iff, Bool.or_eq_false_iff, Int.not_lt, Int.not_le, Bool.false_eq_true, Bool.true_eq_false, false_and, and_false, true_and, and_true, or_false, false_or, or_true, true_or, not_true_eq_false, not_false_eq_true] at h))
      · (try simp (disch := first | omega | (simp only [LN]; omega)) only [↓EC, EW, seval, ↓reduceIte, false_imp_iff])
        refine ⟨i + 1, by simp, ⟨by omega, fun j hj => ?_⟩, by omega⟩
        by_cases e : j = i
        · subst e; assumption
        · exact h2 j (by omega)
      · (try simp (disch := first | omega | (simp only [LN]; omega)) only [↓EC, EW, seval, ↓reduceIte, false_imp_iff])
        refine LP_of (σ := Nat) 200000 [] (fun s => [.int .i64 s]) (fun s => [])
          (fun s => 2 ≤ s ∧ s ≤ 40000 ∧ ∀ d : Int, 2 ≤ d → d < s → ¬ d ∣ gi l i) (fun s => 40000 - s) 2 (by simp [frameOk, names, lpz, sclp, scv, scvs, vi_nrf, vb_nrf, vt_nrf, v2_nrf, v3_nrf, nrfs, nrf, sc_vi, sc_vb, sc_vt, sc_v2, sc_v3, sc_vo, sc_vl, vo_nrf, vl_nrf, sc_vn, vn_nrf]) ⟨by omega, by omega, fun d _ _ => by omega⟩ ?_ ?_
        · simp (disch := first | omega | (simp only [LN]; omega)) only [↓EC, EW, seval, ↓reduceIte, false_imp_iff, ColV_def]
        · rintro p ⟨p1, p2, p3⟩
          have pp : (p : Int) * (p : Int) ≤ 1600000000 := by
            have := Nat.mul_le_mul p2 p2
            rw [← Int.natCast_mul]
            omega
          have pp0 : 0 ≤ (p : Int) * (p : Int) := Int.mul_nonneg (by omega) (by omega)
          simp (disch := first | omega | (simp only [LN]; omega)) only [↓EC, EW, seval, ↓reduceIte, false_imp_iff, ColV_def, lheap_def]
          (refine Split.mk (fun h => ?_) (fun h => ?_) <;> (try simp only [decide_eq_true_eq, decide_eq_false_iff_not, beq_iff_eq, bne_iff_ne, beq_eq_false_iff_ne, bne_eq_false_iff_eq, Bool.not_eq_true', Bool.not_eq_false', Bool.and_eq_true, Bool.or_eq_true, Bool.and_eq_false_iff, Bool.or_eq_false_iff, Int.not_lt, Int.not_le, Bool.false_eq_true, Bool.true_eq_false, false_and, and_false, true_and, and_true, or_false, false_or, or_true, true_or, not_true_eq_false, not_false_eq_true] at h))
          · (try simp (disch := first | omega | (simp only [LN]; omega)) only [↓EC, EW, seval, ↓reduceIte, false_imp_iff])
            (refine Split.mk (fun h => ?_) (fun h => ?_) <;> (try simp only [decide_eq_true_eq, decide_eq_false_iff_not, beq_iff_eq, bne_iff_ne, beq_eq_false_iff_ne, bne_eq_false_iff_eq, Bool.not_eq_true', Bool.not_eq_false', Bool.and_eq_true, Bool.or_eq_true, Bool.and_eq_false_iff, Bool.or_eq_false_iff, Int.not_lt, Int.not_le, Bool.false_eq_true, Bool.true_eq_false, false_and, and_false, true_and, and_true, or_false, false_or, or_true, true_or, not_true_eq_false, not_false_eq_true] at h))
            · (try simp (disch := first | omega | (simp only [LN]; omega)) only [↓EC, EW, seval, ↓reduceIte, false_imp_iff])
              have hd := h
              simp only [ne_eq, tmod_dvd] at hd
              exact ⟨p, rfl, .inr ⟨isP_of (by omega) hd p3, by omega, i, by omega, hd⟩⟩
            · (try simp (disch := first | omega | (simp only [LN]; omega)) only [↓EC, EW, seval, ↓reduceIte, false_imp_iff])
              have hd := h
              simp only [ne_eq, tmod_dvd] at hd
              have hlt : p < 31624 := by
                refine Nat.lt_of_not_le fun hge => ?_
                have := Nat.mul_le_mul hge hge
                have : (31624 * 31624 : Int) ≤ (p : Int) * (p : Int) := by rw [← Int.natCast_mul]; omega
                omega
              refine ⟨p + 1, by simp, ⟨by omega, by omega, fun d d1 d2 => ?_⟩, by omega⟩
              by_cases e : d = p
              · subst e; exact hd
              · exact p3 d d1 (by omega)
          · (try simp (disch := first | omega | (simp only [LN]; omega)) only [↓EC, EW, seval, ↓reduceIte, false_imp_iff])
            exact ⟨gi l i, rfl, .inr ⟨isP_self (p := p) (by omega) (by omega) p3 (by omega), g2, i, by omega, Int.dvd_refl _⟩⟩
    · (try simp (disch := first | omega | (simp only [LN]; omega)) only [↓EC, EW, seval, ↓reduceIte, false_imp_iff])
      exact ⟨0, rfl, .inl ⟨rfl, fun j hj => h2 j (by omega)⟩⟩

/-! ### Dividing by a prime -/
def pA (m n : Nat) (l : List Int) : Int := gi l 0 ^ m * gi l 2 ^ n
def pB (m n : Nat) (l : List Int) : Int := gi l 1 ^ m * gi l 3 ^ n
def sum4 (l : List Int) : Int := gi l 0 + gi l 1 + gi l 2 + gi l 3
structure Ph (m n : Nat) (p : Int) (l0 l : List Int) (t : Int) : Prop where
  len : l.length = 4
  pos : one9 l
  le : ∀ j, j < 4 → gi l j ≤ gi l0 j
  ex : ∃ P Q : Nat, t = (P : Int) - Q ∧ pA m n l0 = p ^ P * pA m n l ∧ pB m n l0 = p ^ Q * pB m n l
  tb : -80000000000 ≤ t - 20 * sum4 l ∧ t + 20 * sum4 l ≤ 80000000000
theorem Ph_start {m n : Nat} {p : Int} {l : List Int} (h4 : l.length = 4) (hl : one9 l) : Ph m n p l l 0 := by
  refine ⟨h4, hl, fun j _ => Int.le_refl _, ⟨0, 0, rfl, by simp, by simp⟩, ?_⟩
  have := hl 0 (by omega); have := hl 1 (by omega); have := hl 2 (by omega); have := hl 3 (by omega)
  unfold sum4; omega
def pw (m n : Nat) : List Int := [(m : Int), -(m : Int), (n : Int), -(n : Int)]
theorem div_lt {a p : Int} (ha : 0 < a) (hp : 2 ≤ p) (hd : p ∣ a) : a.tdiv p < a ∧ 0 < a.tdiv p ∧ a = p * a.tdiv p := by
  obtain ⟨c, rfl⟩ := hd
  rw [Int.mul_tdiv_cancel_left _ (by omega)]
  have c0 : 0 < c := Int.pos_of_mul_pos_right (a := p) ha (by omega)
  refine ⟨?_, c0, rfl⟩
  have : 2 * c ≤ p * c := Int.mul_le_mul_of_nonneg_right hp (by omega)
  omega
theorem Ph_step {m n : Nat} {p t : Int} {l0 l : List Int} {i : Nat} (hm : 1 ≤ m ∧ m ≤ 20) (hn : 1 ≤ n ∧ n ≤ 20) (h : Ph m n p l0 l t) (hp : 2 ≤ p) (hi : i < 4) (hd : p ∣ gi l i) :
    Ph m n p l0 (l.set i ((gi l i).tdiv p)) (t + gi (pw m n) i) ∧ sum4 (l.set i ((gi l i).tdiv p)) < sum4 l := by
  obtain ⟨h1, h2, h3, ⟨P, Q, e1, e2, e3⟩, h5⟩ := h
  have g := h2 i (by omega)
  obtain ⟨d1, d2, d3⟩ := div_lt g.1 hp hd
  generalize hc : (gi l i).tdiv p = c at *
  have gs : ∀ j, j < 4 → gi (l.set i c) j = if i = j then c else gi l j := by
    intro j hj; rw [gi_set]
    by_cases e : i = j
    · rw [if_pos ⟨e, by omega⟩, if_pos e]
    · rw [if_neg (by omega), if_neg e]
  have g0 := gs 0 (by omega); have g1 := gs 1 (by omega); have g2 := gs 2 (by omega); have g3 := gs 3 (by omega)
  have i4 : i = 0 ∨ i = 1 ∨ i = 2 ∨ i = 3 := by omega
  refine ⟨⟨by simpa using h1, fun j hj => ?_, fun j hj => ?_, ?_, ?_⟩, ?_⟩
  · rw [gs j (by simpa [h1] using hj)]
    split
    · omega
    · exact h2 j (by simpa using hj)
  · rw [gs j hj]
    split
    · rename_i e; subst e; have := h3 i hj; omega
    · exact h3 j hj
  · rcases i4 with rfl | rfl | rfl | rfl
    · refine ⟨P + m, Q, by simp [pw, gi]; omega, ?_, ?_⟩
      · rw [e2]; unfold pA; rw [g0, g2]
        simp only [if_true, show ¬ (0 = 2) by omega, if_false]
        conv => lhs; rw [d3]
        rw [Int.mul_pow, Int.pow_add]; ac_rfl
      · rw [e3]; unfold pB; rw [g1, g3]
        simp
    · refine ⟨P, Q + m, by simp [pw, gi]; omega, ?_, ?_⟩
      · rw [e2]; unfold pA; rw [g0, g2]
        simp
      · rw [e3]; unfold pB; rw [g1, g3]
        simp only [if_true, show ¬ (1 = 3) by omega, if_false]
        conv => lhs; rw [d3]
        rw [Int.mul_pow, Int.pow_add]; ac_rfl
    · refine ⟨P + n, Q, by simp [pw, gi]; omega, ?_, ?_⟩
      · rw [e2]; unfold pA; rw [g0, g2]
        simp only [if_true, show ¬ (2 = 0) by omega, if_false]
        conv => lhs; rw [d3]
        rw [Int.mul_pow, Int.pow_add]; ac_rfl
      · rw [e3]; unfold pB; rw [g1, g3]
        simp
    · refine ⟨P, Q + n, by simp [pw, gi]; omega, ?_, ?_⟩
      · rw [e2]; unfold pA; rw [g0, g2]
        simp
      · rw [e3]; unfold pB; rw [g1, g3]
        simp only [if_true, show ¬ (3 = 1) by omega, if_false]
        conv => lhs; rw [d3]
        rw [Int.mul_pow, Int.pow_add]; ac_rfl
  · unfold sum4 at *
    rw [g0, g1, g2, g3]
    rcases i4 with rfl | rfl | rfl | rfl <;> simp [pw, gi] at * <;> omega
  · unfold sum4 at *
    rw [g0, g1, g2, g3]
    rcases i4 with rfl | rfl | rfl | rfl <;> simp at * <;> omega
theorem cop_pA {m n : Nat} {p : Int} {l : List Int} (hp : isP p) (h : ∀ j, j < 4 → ¬ p ∣ gi l j) : cop p (pA m n l) ∧ cop p (pB m n l) :=
  ⟨cop_mul_r (cop_pow_r (hp.2 _ (h 0 (by omega)))) (cop_pow_r (hp.2 _ (h 2 (by omega)))), cop_mul_r (cop_pow_r (hp.2 _ (h 1 (by omega)))) (cop_pow_r (hp.2 _ (h 3 (by omega))))⟩
/-- What a round leads to: the total is told, and what is found. -/
theorem Ph_round {m n : Nat} {N D on od p t : Int} {l0 l : List Int} (hp : isP p) (h : Pri N D on od (pA m n l0) (pB m n l0)) (hr : Ph m n p l0 l t) (hd : ∀ j, j < 4 → ¬ p ∣ gi l j) :
    Pri N D (on * p ^ t.toNat) (od * p ^ (-t).toNat) (pA m n l) (pB m n l) := by
  obtain ⟨P, Q, e1, e2, e3⟩ := hr.ex
  rw [e2, e3] at h
  obtain ⟨c1, c2⟩ := cop_pA (m := m) (n := n) hp hd
  by_cases hPQ : Q ≤ P
  · have h1 : t.toNat = P - Q := by omega
    have h2 : (-t).toNat = 0 := by omega
    rw [h1, h2, Int.pow_zero, Int.mul_one]
    exact Pri_up hp h c1 c2 hPQ
  · have h1 : (-t).toNat = Q - P := by omega
    have h2 : t.toNat = 0 := by omega
    rw [h1, h2, Int.pow_zero, Int.mul_one]
    exact Pri_dn hp h c1 c2 (by omega)
theorem sum4_lt {l0 l : List Int} {p : Int} (h : ∀ j, j < 4 → gi l j ≤ gi l0 j) (h1 : ∃ j, j < 4 ∧ p ∣ gi l0 j) (h2 : ∀ j, j < 4 → ¬ p ∣ gi l j) : sum4 l < sum4 l0 := by
  obtain ⟨j, hj, hp⟩ := h1
  have h3 : gi l j ≠ gi l0 j := by intro e; exact h2 j hj (by rw [e]; exact hp)
  have a0 := h 0 (by omega); have a1 := h 1 (by omega); have a2 := h 2 (by omega); have a3 := h 3 (by omega)
  have i4 : j = 0 ∨ j = 1 ∨ j = 2 ∨ j = 3 := by omega
  unfold sum4
  rcases i4 with rfl | rfl | rfl | rfl <;> omega
end Go.Proofs.Ytlfpiegadaiafaa.Sep
end
section
/- The walk through spec.l10Product. -/
namespace Go.Proofs.Ytlfpiegadaiafaa.Sep
open Go.RowKit
set_option linter.unusedVariables false
set_option linter.unusedSimpArgs false
set_option maxRecDepth 20000
set_option maxHeartbeats 4000000

def prdV : Option (Int × Int) → V
  | some p => .tup [.agg [.int .i64 p.1, .int .i64 p.2], .bool true]
  | none => .tup [.agg [.int .i64 0, .int .i64 0], .bool false]
theorem prdV_ok {p : Int × Int} (h : p.1.natAbs ≤ 1000000000 ∧ p.2 ≤ 1000000000) : prdV (okPf p) = .tup [.agg [.int .i64 p.1, .int .i64 p.2], .bool true] := by
  unfold okPf; rw [if_pos h]; rfl
theorem prdV_no {p : Int × Int} (h : ¬ (p.1.natAbs ≤ 1000000000 ∧ p.2 ≤ 1000000000)) : prdV (okPf p) = .tup [.agg [.int .i64 0, .int .i64 0], .bool false] := by
  unfold okPf; rw [if_neg h]; rfl
/-- The numbers and the sign after 'i' of four. -/
def sgL (an ad bn bd : Int) (i : Nat) : List Int := [if 0 < i then (an.natAbs : Int) else an, ad, if 2 < i then (bn.natAbs : Int) else bn, bd]
def sgA (an : Int) (m : Nat) : Int := if an < 0 ∧ m % 2 ≠ 0 then -1 else 1
def sgS (an bn : Int) (m n : Nat) (i : Nat) : Int := (if 0 < i then sgA an m else 1) * (if 2 < i then sgA bn n else 1)
theorem pow_sg {a : Int} {m : Nat} (h : a ≠ 0) : a ^ m = sgA a m * (a.natAbs : Int) ^ m := by
  unfold sgA
  by_cases hn : a < 0
  · have e : a = -(a.natAbs : Int) := by omega
    conv => lhs; rw [e]
    generalize (a.natAbs : Int) = x
    rw [Int.neg_pow]
    rcases Nat.mod_two_eq_zero_or_one m with h2 | h2
    · rw [if_neg (by omega), h2]; simp
    · rw [if_pos (by omega), h2]; simp
  · rw [if_neg (by omega)]
    have e : a = (a.natAbs : Int) := by omega
    conv => lhs; rw [e]
    simp
theorem sgA_abs {a : Int} {m : Nat} : sgA a m = 1 ∨ sgA a m = -1 := by unfold sgA; split <;> simp
theorem sgL_len {an ad bn bd : Int} {i : Nat} : (sgL an ad bn bd i).length = 4 := rfl
theorem pw_len {m n : Nat} : (pw m n).length = 4 := rfl
theorem pow_mono {on p : Int} {k t : Nat} (h0 : 0 < on) (hp : 2 ≤ p) (hk : k < t) : on * p ^ k * p ≤ on * p ^ t := by
  obtain ⟨r, rfl⟩ : ∃ r, t = k + 1 + r := ⟨t - (k + 1), by omega⟩
  rw [Int.pow_add, Int.pow_succ]
  have h1 : 0 < p ^ r := Int.pow_pos (by omega)
  have h2 : 0 ≤ on * p ^ k * p := Int.mul_nonneg (Int.mul_nonneg (by omega) (Int.le_of_lt (Int.pow_pos (by omega)))) (by omega)
  calc on * p ^ k * p = on * p ^ k * p * 1 := by simp
    _ ≤ on * p ^ k * p * p ^ r := Int.mul_le_mul_of_nonneg_left (by omega) h2
    _ = _ := by ac_rfl
theorem c_spec_l10Product {an ad bn bd : Int} {m n : Nat} (hm : 1 ≤ m ∧ m ≤ 20) (hn : 1 ≤ n ∧ n ≤ 20) (a1 : an.natAbs ≤ 1000000000) (a2 : 0 < ad ∧ ad ≤ 1000000000) (b1 : bn.natAbs ≤ 1000000000) (b2 : 0 < bd ∧ bd ≤ 1000000000) :
    PSpec Try.prog 88 [.agg [.int .i64 an, .int .i64 ad], .int .i64 m, .agg [.int .i64 bn, .int .i64 bd], .int .i64 n] fun v => v = prdV (okPf (rd (an ^ m * bn ^ n) (ad ^ m * bd ^ n))) := by
  have hV : 0 < ad ^ m * bd ^ n := Int.mul_pos (Int.pow_pos a2.1) (Int.pow_pos b2.1)
  have z : an = 0 ∨ bn = 0 → (.tup [.agg [.int .i64 0, .int .i64 1], .bool true] : V) = prdV (okPf (rd (an ^ m * bn ^ n) (ad ^ m * bd ^ n))) := by
    intro h
    have : an ^ m * bn ^ n = 0 := by rcases h with rfl | rfl <;> rw [Int.zero_pow (by omega)] <;> simp
    rw [this, rd_zero (by omega)]
    rfl
  have w0 : (pw m n).length = 4 := rfl
  have pw0 : gi (pw m n) 0 = m := rfl
  have pw2 : gi (pw m n) 2 = n := rfl
  have tm : (m : Int).tmod 2 = ((m % 2 : Nat) : Int) := by rw [Int.tmod_eq_emod_of_nonneg (by omega)]; omega
  have tn : (n : Int).tmod 2 = ((n % 2 : Nat) : Int) := by rw [Int.tmod_eq_emod_of_nonneg (by omega)]; omega
  refine spec_l10Product_f.f ?_
  simp (disch := first | omega | (simp only [LN]; omega)) only [↓EC, EW, seval, ↓reduceIte, false_imp_iff, spec_l10Product_F]
  (refine Split.mk (fun h => ?_) (fun h => ?_) <;> (try simp only [decide_eq_true_eq, decide_eq_false_iff_not, beq_iff_eq, bne_iff_ne, beq_eq_false_iff_ne, bne_eq_false_iff_eq, Bool.not_eq_true', Bool.not_eq_false', Bool.and_eq_true, Bool.or_eq_true, Bool.and_eq_false_iff, Bool.or_eq_false_iff, Int.not_lt, Int.not_le, Bool.false_eq_true, Bool.true_eq_false, false_and, and_false, true_and, and_true, or_false, false_or, or_true, true_or, not_true_eq_false, not_false_eq_true] at h))
  · exact z (.inl h)
  (refine Split.mk (fun h => ?_) (fun h => ?_) <;> (try simp only [decide_eq_true_eq, decide_eq_false_iff_not, beq_iff_eq, bne_iff_ne, beq_eq_false_iff_ne, bne_eq_false_iff_eq, Bool.not_eq_true', Bool.not_eq_false', Bool.and_eq_true, Bool.or_eq_true, Bool.and_eq_false_iff, Bool.or_eq_false_iff, Int.not_lt, Int.not_le, Bool.false_eq_true, Bool.true_eq_false, false_and, and_false, true_and, and_true, or_false, false_or, or_true, true_or, not_true_eq_false, not_false_eq_true] at h))
  · exact z (.inr h)
  have an0 : an ≠ 0 := by assumption
  have bn0 : bn ≠ 0 := by assumption
  -- the value
  obtain ⟨r1, r2, r3⟩ := rd_spec (U := an ^ m * bn ^ n) (V := ad ^ m * bd ^ n) (by omega)
  generalize hr : rd (an ^ m * bn ^ n) (ad ^ m * bd ^ n) = r at *
  obtain ⟨N, D⟩ := r
  simp only at r1 r2 r3
  have hS : sgS an bn m n 4 = 1 ∨ sgS an bn m n 4 = -1 := by
    unfold sgS
    simp only [show 0 < 4 by omega, show 2 < 4 by omega, if_true]
    rcases sgA_abs (a := an) (m := m) with h1 | h1 <;> rcases sgA_abs (a := bn) (m := n) with h2 | h2 <;> rw [h1, h2] <;> simp
  have hU : an ^ m * bn ^ n = sgS an bn m n 4 * ((an.natAbs : Int) ^ m * (bn.natAbs : Int) ^ n) := by
    rw [pow_sg an0, pow_sg bn0]
    simp only [sgS, show 0 < 4 by omega, show 2 < 4 by omega, if_true]
    ac_rfl
  have pA0 : 0 < (an.natAbs : Int) ^ m * (bn.natAbs : Int) ^ n := Int.mul_pos (Int.pow_pos (by omega)) (Int.pow_pos (by omega))
  generalize hSg : sgS an bn m n 4 = S at *
  have hN : N = S * N.natAbs := by
    rw [hU] at r3
    rcases hS with rfl | rfl
    · have : 0 < N := by
        have : 0 < N * (ad ^ m * bd ^ n) := by rw [r3]; exact Int.mul_pos (by simpa using pA0) r1
        exact Int.pos_of_mul_pos_left this hV
      omega
    · have : 0 < -N := by
        have : 0 < -N * (ad ^ m * bd ^ n) := by rw [Int.neg_mul, r3]; simp only [Int.neg_mul, Int.one_mul, Int.neg_neg]; exact Int.mul_pos pA0 r1
        exact Int.pos_of_mul_pos_left this hV
      omega
  have hN0 : 0 < (N.natAbs : Int) := by
    have : N ≠ 0 := by
      rintro rfl
      rw [hU] at r3
      simp only [Int.zero_mul] at r3
      have := Int.mul_pos pA0 r1
      rcases hS with rfl | rfl
      · rw [Int.one_mul] at r3; omega
      · rw [Int.mul_assoc] at r3; omega
    omega
  have cN : cop (N.natAbs : Int) D := by
    have : Int.gcd N D = 1 := r2
    simpa [cop, Int.gcd] using this
  have rN : (N.natAbs : Int) * (ad ^ m * bd ^ n) = D * ((an.natAbs : Int) ^ m * (bn.natAbs : Int) ^ n) := by
    rw [hU] at r3
    rcases hS with rfl | rfl
    · have : (N.natAbs : Int) = N := by omega
      rw [this, r3, Int.one_mul, Int.mul_comm]
    · have : (N.natAbs : Int) = -N := by omega
      rw [this, Int.neg_mul, r3, Int.neg_mul, Int.one_mul, Int.neg_mul, Int.neg_neg, Int.mul_comm]
  have hfail : ¬ (N.natAbs ≤ 1000000000 ∧ D ≤ 1000000000) → (.tup [.agg [.int .i64 0, .int .i64 0], .bool false] : V) = prdV (okPf (N, D)) := fun h => (prdV_no (p := (N, D)) h).symm
  (try simp (disch := first | omega | (simp only [LN]; omega)) only [↓EC, EW, seval, ↓reduceIte, false_imp_iff])
  refine LP_of (σ := Nat) 100000 [(68, 27, 1), (70, 27, 1), (72, 27, 1), (74, 27, 1), (100, 2, 1), (107, 2, 1)]
    (fun s => [.int .i64 (sgS an bn m n s), .int .i64 s]) (fun s => [[.int .i64 an, .int .i64 ad], [.int .i64 bn, .int .i64 bd], [.int .i64 0, .int .i64 0], [.int .i64 (1), .int .i64 (1)], vi .i64 (sgL an ad bn bd s), vi .i64 (pw m n)])
    (fun s => s ≤ 4) (fun s => 4 - s) 0 (by simp [frameOk, names, lpz, sclp, scv, scvs, vi_nrf, vb_nrf, vt_nrf, v2_nrf, v3_nrf, nrfs, nrf, sc_vi, sc_vb, sc_vt, sc_v2, sc_v3, sc_vo, sc_vl, vo_nrf, vl_nrf, sc_vn, vn_nrf]) (by omega) ?_ ?_
  · simp (disch := first | omega | (simp only [LN]; omega)) only [↓EC, EW, seval, ↓reduceIte, false_imp_iff, ColV_def]
    exact ⟨rfl, rfl⟩
  · rintro i hi
    have i5 : i = 0 ∨ i = 1 ∨ i = 2 ∨ i = 3 ∨ i = 4 := by omega
    rcases i5 with rfl | rfl | rfl | rfl | rfl
    · have l0 : (sgL an ad bn bd 0).length = 4 := rfl
      have l1 : gi (sgL an ad bn bd 0) 0 = an := rfl
      have s0 : sgS an bn m n 0 = 1 := rfl
      have s1 : sgS an bn m n 1 = if an < 0 ∧ m % 2 ≠ 0 then -1 else 1 := by simp [sgS, sgA]
      simp (disch := first | omega | (simp only [LN]; omega)) only [↓EC, EW, seval, ↓reduceIte, false_imp_iff, ColV_def, lheap_def, l0, l1, w0, s0, pw0, tm]
      repeat' (refine Split.mk (fun h => ?_) (fun h => ?_) <;> (try simp only [decide_eq_true_eq, decide_eq_false_iff_not, beq_iff_eq, bne_iff_ne, beq_eq_false_iff_ne, bne_eq_false_iff_eq, Bool.not_eq_true', Bool.not_eq_false', Bool.and_eq_true, Bool.or_eq_true, Bool.and_eq_false_iff, Bool.or_eq_false_iff, Int.not_lt, Int.not_le, Bool.false_eq_true, Bool.true_eq_false, false_and, and_false, true_and, and_true, or_false, false_or, or_true, true_or, not_true_eq_false, not_false_eq_true] at h))
      · refine ⟨1, by rw [s1, if_pos (by omega)]; rfl, by simp [sgL, vi]; omega, by omega, by omega⟩
      · refine ⟨1, by rw [s1, if_neg (by omega)]; rfl, by simp [sgL, vi]; omega, by omega, by omega⟩
      · refine ⟨1, by rw [s1, if_neg (by omega)]; rfl, by simp [sgL, vi]; omega, by omega, by omega⟩
    · have l0 : (sgL an ad bn bd 1).length = 4 := rfl
      have l1 : gi (sgL an ad bn bd 1) 1 = ad := rfl
      simp (disch := first | omega | (simp only [LN]; omega)) only [↓EC, EW, seval, ↓reduceIte, false_imp_iff, ColV_def, lheap_def, l0, l1, w0]
      repeat' (refine Split.mk (fun h => ?_) (fun h => ?_) <;> (try simp only [decide_eq_true_eq, decide_eq_false_iff_not, beq_iff_eq, bne_iff_ne, beq_eq_false_iff_ne, bne_eq_false_iff_eq, Bool.not_eq_true', Bool.not_eq_false', Bool.and_eq_true, Bool.or_eq_true, Bool.and_eq_false_iff, Bool.or_eq_false_iff, Int.not_lt, Int.not_le, Bool.false_eq_true, Bool.true_eq_false, false_and, and_false, true_and, and_true, or_false, false_or, or_true, true_or, not_true_eq_false, not_false_eq_true] at h))
      all_goals first | omega | skip
      refine ⟨2, rfl, rfl, by omega, by omega⟩
    · have l0 : (sgL an ad bn bd 2).length = 4 := rfl
      have l1 : gi (sgL an ad bn bd 2) 2 = bn := rfl
      have s0 : sgS an bn m n 2 = sgA an m := by simp [sgS]
      have s1 : sgS an bn m n 3 = sgA an m * (if bn < 0 ∧ n % 2 ≠ 0 then -1 else 1) := by simp [sgS]; simp [sgA]
      have s2 := sgA_abs (a := an) (m := m)
      simp (disch := first | omega | (simp only [LN]; omega)) only [↓EC, EW, seval, ↓reduceIte, false_imp_iff, ColV_def, lheap_def, l0, l1, w0, s0, pw2, tn]
      repeat' (refine Split.mk (fun h => ?_) (fun h => ?_) <;> (try simp only [decide_eq_true_eq, decide_eq_false_iff_not, beq_iff_eq, bne_iff_ne, beq_eq_false_iff_ne, bne_eq_false_iff_eq, Bool.not_eq_true', Bool.not_eq_false', Bool.and_eq_true, Bool.or_eq_true, Bool.and_eq_false_iff, Bool.or_eq_false_iff, Int.not_lt, Int.not_le, Bool.false_eq_true, Bool.true_eq_false, false_and, and_false, true_and, and_true, or_false, false_or, or_true, true_or, not_true_eq_false, not_false_eq_true] at h))
      · refine ⟨3, by rw [s1, if_pos (by omega), Int.mul_neg, Int.mul_one]; rfl, by simp [sgL, vi]; omega, by omega, by omega⟩
      · refine ⟨3, by rw [s1, if_neg (by omega), Int.mul_one]; rfl, by simp [sgL, vi]; omega, by omega, by omega⟩
      · refine ⟨3, by rw [s1, if_neg (by omega), Int.mul_one]; rfl, by simp [sgL, vi]; omega, by omega, by omega⟩
    · have l0 : (sgL an ad bn bd 3).length = 4 := rfl
      have l1 : gi (sgL an ad bn bd 3) 3 = bd := rfl
      simp (disch := first | omega | (simp only [LN]; omega)) only [↓EC, EW, seval, ↓reduceIte, false_imp_iff, ColV_def, lheap_def, l0, l1, w0]
      repeat' (refine Split.mk (fun h => ?_) (fun h => ?_) <;> (try simp only [decide_eq_true_eq, decide_eq_false_iff_not, beq_iff_eq, bne_iff_ne, beq_eq_false_iff_ne, bne_eq_false_iff_eq, Bool.not_eq_true', Bool.not_eq_false', Bool.and_eq_true, Bool.or_eq_true, Bool.and_eq_false_iff, Bool.or_eq_false_iff, Int.not_lt, Int.not_le, Bool.false_eq_true, Bool.true_eq_false, false_and, and_false, true_and, and_true, or_false, false_or, or_true, true_or, not_true_eq_false, not_false_eq_true] at h))
      all_goals first | omega | skip
      refine ⟨4, rfl, rfl, by omega, by omega⟩
    · simp (disch := first | omega | (simp only [LN]; omega)) only [↓EC, EW, seval, ↓reduceIte, false_imp_iff, ColV_def, lheap_def, sgL_len, hSg]
      refine LP_of (σ := List Int × Int × Int) 200000 [(68, 27, 1), (70, 27, 1), (72, 27, 1), (74, 27, 1), (100, 2, 1), (107, 2, 1)]
        (fun s => []) (fun s => [[.int .i64 an, .int .i64 ad], [.int .i64 bn, .int .i64 bd], [.int .i64 0, .int .i64 0], [.int .i64 (s.2.1), .int .i64 (s.2.2)], vi .i64 (s.1), vi .i64 (pw m n)])
        (fun s => s.1.length = 4 ∧ one9 s.1 ∧ Pri (N.natAbs : Int) D s.2.1 s.2.2 (pA m n s.1) (pB m n s.1) ∧ s.2.1 ≤ 1000000000 ∧ s.2.2 ≤ 1000000000) (fun s => (sum4 s.1).toNat) (sgL an ad bn bd 4, 1, 1) (by simp [frameOk, names, lpz, sclp, scv, scvs, vi_nrf, vb_nrf, vt_nrf, v2_nrf, v3_nrf, nrfs, nrf, sc_vi, sc_vb, sc_vt, sc_v2, sc_v3, sc_vo, sc_vl, vo_nrf, vl_nrf, sc_vn, vn_nrf]) ?_ ?_ ?_
      · refine ⟨rfl, ?_, ?_, by simp, by simp⟩
        · intro j hj
          have j4 : j = 0 ∨ j = 1 ∨ j = 2 ∨ j = 3 := by simp only [sgL_len] at hj; omega
          rcases j4 with rfl | rfl | rfl | rfl <;> simp [sgL, gi] <;> omega
        · have e1 : pA m n (sgL an ad bn bd 4) = (an.natAbs : Int) ^ m * (bn.natAbs : Int) ^ n := rfl
          have e2 : pB m n (sgL an ad bn bd 4) = ad ^ m * bd ^ n := rfl
          rw [e1, e2]
          exact ⟨by simp, by simp, pA0, hV, by simp only [Int.one_mul]; exact rN, cop_one_l, cop_one_l, cop_one_l⟩
      · simp (disch := first | omega | (simp only [LN]; omega)) only [↓EC, EW, seval, ↓reduceIte, false_imp_iff, ColV_def]
      · rintro ⟨l, on, od⟩ ⟨h1, h2, h3, h4, h5⟩
        simp only at h1 h2 h3 h4 h5
        simp (disch := first | omega | (simp only [LN]; omega)) only [↓EC, EW, seval, ↓reduceIte, false_imp_iff, ColV_def, lheap_def]
        refine pcd_r (c_spec_l10Prime h1 h2) ?_
        rintro _ ⟨p, rfl, hp⟩
        have hon := h3.on0
        have hod := h3.od0
        have hSon : -1000000000 ≤ on * S ∧ on * S ≤ 1000000000 := by rcases hS with rfl | rfl <;> omega
        (try simp (disch := first | omega | (simp only [LN]; omega)) only [↓EC, EW, seval, ↓reduceIte, false_imp_iff])
        (refine Split.mk (fun h => ?_) (fun h => ?_) <;> (try simp only [decide_eq_true_eq, decide_eq_false_iff_not, beq_iff_eq, bne_iff_ne, beq_eq_false_iff_ne, bne_eq_false_iff_eq, Bool.not_eq_true', Bool.not_eq_false', Bool.and_eq_true, Bool.or_eq_true, Bool.and_eq_false_iff, Bool.or_eq_false_iff, Int.not_lt, Int.not_le, Bool.false_eq_true, Bool.true_eq_false, false_and, and_false, true_and, and_true, or_false, false_or, or_true, true_or, not_true_eq_false, not_false_eq_true] at h))
        · subst h
          have hone : ∀ j, j < 4 → gi l j = 1 := by
            rcases hp with ⟨_, h⟩ | ⟨h, _⟩
            · exact h
            · have := h.1; omega
          have e1 : pA m n l = 1 := by simp [pA, hone 0, hone 2, Int.one_pow]
          have e2 : pB m n l = 1 := by simp [pB, hone 1, hone 3, Int.one_pow]
          rw [e1, e2] at h3
          obtain ⟨q1, q2⟩ := Pri_end r1 cN h3
          (try simp (disch := first | omega | (simp only [LN]; omega)) only [↓EC, EW, seval, ↓reduceIte, false_imp_iff])
          rw [prdV_ok (p := (N, D)) (by simp only; omega)]
          subst q1; subst q2
          rw [Int.mul_comm, ← hN]
        · obtain ⟨pp, ppl, pj⟩ : isP p ∧ p ≤ 1000000000 ∧ ∃ j, j < 4 ∧ p ∣ gi l j := by
            rcases hp with ⟨h', _⟩ | h'
            · exact absurd h' h
            · exact h'
          have p2 := pp.1
          (try simp (disch := first | omega | (simp only [LN]; omega)) only [↓EC, EW, seval, ↓reduceIte, false_imp_iff])
          refine LP_of (σ := Nat × List Int × Int) 300000 [(68, 27, 1), (70, 27, 1), (72, 27, 1), (74, 27, 1), (100, 2, 1), (107, 2, 1)]
            (fun s => [.int .i64 s.2.2, .int .i64 s.1]) (fun s => [[.int .i64 an, .int .i64 ad], [.int .i64 bn, .int .i64 bd], [.int .i64 0, .int .i64 0], [.int .i64 (on), .int .i64 (od)], vi .i64 (s.2.1), vi .i64 (pw m n)])
            (fun s => s.1 ≤ 4 ∧ Ph m n p l s.2.1 s.2.2 ∧ ∀ j, j < s.1 → ¬ p ∣ gi s.2.1 j) (fun s => 4 - s.1) (0, l, 0) (by simp [frameOk, names, lpz, sclp, scv, scvs, vi_nrf, vb_nrf, vt_nrf, v2_nrf, v3_nrf, nrfs, nrf, sc_vi, sc_vb, sc_vt, sc_v2, sc_v3, sc_vo, sc_vl, vo_nrf, vl_nrf, sc_vn, vn_nrf]) ⟨by simp, Ph_start h1 h2, fun j hj => absurd hj (Nat.not_lt_zero j)⟩ ?_ ?_
          · simp (disch := first | omega | (simp only [LN]; omega)) only [↓EC, EW, seval, ↓reduceIte, false_imp_iff, ColV_def]
          · rintro ⟨i, l', t⟩ ⟨g1, g2, g3⟩
            simp only at g1 g2 g3
            have gl := g2.len
            have gtb := g2.tb
            simp (disch := first | omega | (simp only [LN]; omega)) only [↓EC, EW, seval, ↓reduceIte, false_imp_iff, ColV_def, lheap_def, gl]
            (refine Split.mk (fun h => ?_) (fun h => ?_) <;> (try simp only [decide_eq_true_eq, decide_eq_false_iff_not, beq_iff_eq, bne_iff_ne, beq_eq_false_iff_ne, bne_eq_false_iff_eq, Bool.not_eq_true', Bool.not_eq_false', Bool.and_eq_true, Bool.or_eq_true, Bool.and_eq_false_iff, Bool.or_eq_false_iff, Int.not_lt, Int.not_le, Bool.false_eq_true, Bool.true_eq_false, false_and, and_false, true_and, and_true, or_false, false_or, or_true, true_or, not_true_eq_false, not_false_eq_true] at h))
            · (try simp (disch := first | omega | (simp only [LN]; omega)) only [↓EC, EW, seval, ↓reduceIte, false_imp_iff])
              refine LP_of (σ := List Int × Int) 400000 [(68, 27, 1), (70, 27, 1), (72, 27, 1), (74, 27, 1), (100, 2, 1), (107, 2, 1)]
                (fun s => [.int .i64 s.2]) (fun s => [[.int .i64 an, .int .i64 ad], [.int .i64 bn, .int .i64 bd], [.int .i64 0, .int .i64 0], [.int .i64 (on), .int .i64 (od)], vi .i64 (s.1), vi .i64 (pw m n)])
                (fun s => Ph m n p l s.1 s.2 ∧ ∀ j, j < i → ¬ p ∣ gi s.1 j) (fun s => (sum4 s.1).toNat) (l', t) (by simp [frameOk, names, lpz, sclp, scv, scvs, vi_nrf, vb_nrf, vt_nrf, v2_nrf, v3_nrf, nrfs, nrf, sc_vi, sc_vb, sc_vt, sc_v2, sc_v3, sc_vo, sc_vl, vo_nrf, vl_nrf, sc_vn, vn_nrf]) ⟨g2, g3⟩ ?_ ?_
              · simp (disch := first | omega | (simp only [LN]; omega)) only [↓EC, EW, seval, ↓reduceIte, false_imp_iff, ColV_def]
              · rintro ⟨l', t⟩ ⟨g2, g3⟩
                simp only at g2 g3
                have gl := g2.len
                have gtb := g2.tb
                have g0 := g2.pos i (by omega)
                have hs4 : 0 < sum4 l' := by
                  have := g2.pos 0 (by omega); have := g2.pos 1 (by omega); have := g2.pos 2 (by omega); have := g2.pos 3 (by omega)
                  unfold sum4; omega
                have hpwb : -20 ≤ gi (pw m n) i ∧ gi (pw m n) i ≤ 20 := by
                  have i4 : i = 0 ∨ i = 1 ∨ i = 2 ∨ i = 3 := by omega
                  rcases i4 with rfl | rfl | rfl | rfl <;> simp [pw, gi] <;> omega
                have hq := Int.natAbs_tdiv_le_natAbs (gi l' i) p
                simp (disch := first | omega | (simp only [LN]; omega)) only [↓EC, EW, seval, ↓reduceIte, false_imp_iff, ColV_def, lheap_def, gl, w0]
                (refine Split.mk (fun h => ?_) (fun h => ?_) <;> (try simp only [decide_eq_true_eq, decide_eq_false_iff_not, beq_iff_eq, bne_iff_ne, beq_eq_false_iff_ne, bne_eq_false_iff_eq, Bool.not_eq_true', Bool.not_eq_false', Bool.and_eq_true, Bool.or_eq_true, Bool.and_eq_false_iff, Bool.or_eq_false_iff, Int.not_lt, Int.not_le, Bool.false_eq_true, Bool.true_eq_false, false_and, and_false, true_and, and_true, or_false, false_or, or_true, true_or, not_true_eq_false, not_false_eq_true] at h))
                · have hd : p ∣ gi l' i := tmod_dvd.1 h
                  obtain ⟨k1, k2⟩ := Ph_step hm hn g2 p2 (by omega) hd
                  (try simp (disch := first | omega | (simp only [LN]; omega)) only [↓EC, EW, seval, ↓reduceIte, false_imp_iff, gl, w0])
                  refine ⟨(_, _), rfl, rfl, ⟨k1, fun j hj => ?_⟩, by simp only; omega⟩
                  simp only
                  rw [gi_set, if_neg (by omega)]
                  exact g3 j hj
                · have hd : ¬ p ∣ gi l' i := fun h' => h (tmod_dvd.2 h')
                  (try simp (disch := first | omega | (simp only [LN]; omega)) only [↓EC, EW, seval, ↓reduceIte, false_imp_iff, gl, w0])
                  refine ⟨(i + 1, l', t), by simp, rfl, ⟨by simp only; omega, g2, fun j hj => ?_⟩, by simp only; omega⟩
                  by_cases e : j = i
                  · subst e; exact hd
                  · exact g3 j (by simp only at hj; omega)
            · have hi4 : i = 4 := by omega
              subst hi4
              have hR := Ph_round pp h3 g2 g3
              have hlt := sum4_lt g2.le pj g3
              have hNle := Pri_le (by omega) hR
              have hDle := Pri_le r1 hR.swap
              have hs4 : 0 < sum4 l' := by
                have := g2.pos 0 (by omega); have := g2.pos 1 (by omega); have := g2.pos 2 (by omega); have := g2.pos 3 (by omega)
                unfold sum4; omega
              have htb : -80000000000 ≤ t ∧ t ≤ 80000000000 := by omega
              (try simp (disch := first | omega | (simp only [LN]; omega)) only [↓EC, EW, seval, ↓reduceIte, false_imp_iff])
              refine LP_of (σ := Nat) 400000 [(68, 27, 1), (70, 27, 1), (72, 27, 1), (74, 27, 1), (100, 2, 1), (107, 2, 1)]
                (fun k => [.int .i64 (t - k)]) (fun k => [[.int .i64 an, .int .i64 ad], [.int .i64 bn, .int .i64 bd], [.int .i64 0, .int .i64 0], [.int .i64 (on * p ^ k), .int .i64 (od)], vi .i64 (l'), vi .i64 (pw m n)])
                (fun k => k ≤ t.toNat ∧ on * p ^ k ≤ 1000000000) (fun k => t.toNat - k) 0 (by simp [frameOk, names, lpz, sclp, scv, scvs, vi_nrf, vb_nrf, vt_nrf, v2_nrf, v3_nrf, nrfs, nrf, sc_vi, sc_vb, sc_vt, sc_v2, sc_v3, sc_vo, sc_vl, vo_nrf, vl_nrf, sc_vn, vn_nrf]) ⟨by omega, by simpa using h4⟩ ?_ ?_
              · simp (disch := first | omega | (simp only [LN]; omega)) only [↓EC, EW, seval, ↓reduceIte, false_imp_iff, ColV_def]
                simp
              · rintro k ⟨k1, k2⟩
                have hk0 : 0 < on * p ^ k := Int.mul_pos hon (Int.pow_pos (by omega))
                have hkm := mul_limN (a := on * p ^ k) (b := p) (A := 1000000000) (B := 1000000000) (by omega) (by omega)
                have hkn : 0 < on * p ^ k * p := Int.mul_pos hk0 (by omega)
                simp (disch := first | omega | (simp only [LN]; omega)) only [↓EC, EW, seval, ↓reduceIte, false_imp_iff, ColV_def, lheap_def]
                (refine Split.mk (fun h => ?_) (fun h => ?_) <;> (try simp only [decide_eq_true_eq, decide_eq_false_iff_not, beq_iff_eq, bne_iff_ne, beq_eq_false_iff_ne, bne_eq_false_iff_eq, Bool.not_eq_true', Bool.not_eq_false', Bool.and_eq_true, Bool.or_eq_true, Bool.and_eq_false_iff, Bool.or_eq_false_iff, Int.not_lt, Int.not_le, Bool.false_eq_true, Bool.true_eq_false, false_and, and_false, true_and, and_true, or_false, false_or, or_true, true_or, not_true_eq_false, not_false_eq_true] at h))
                · have hkt : k < t.toNat := by omega
                  have hmo := pow_mono hon p2 hkt
                  (try simp (disch := first | omega | (simp only [LN]; omega)) only [↓EC, EW, seval, ↓reduceIte, false_imp_iff])
                  (refine Split.mk (fun h => ?_) (fun h => ?_) <;> (try simp only [decide_eq_true_eq, decide_eq_false_iff_not, beq_iff_eq, bne_iff_ne, beq_eq_false_iff_ne, bne_eq_false_iff_eq, Bool.not_eq_true', Bool.not_eq_false', Bool.and_eq_true, Bool.or_eq_true, Bool.and_eq_false_iff, Bool.or_eq_false_iff, Int.not_lt, Int.not_le, Bool.false_eq_true, Bool.true_eq_false, false_and, and_false, true_and, and_true, or_false, false_or, or_true, true_or, not_true_eq_false, not_false_eq_true] at h))
                  · (try simp (disch := first | omega | (simp only [LN]; omega)) only [↓EC, EW, seval, ↓reduceIte, false_imp_iff])
                    exact hfail (by omega)
                  · (try simp (disch := first | omega | (simp only [LN]; omega)) only [↓EC, EW, seval, ↓reduceIte, false_imp_iff])
                    exact ⟨k + 1, by simp; omega, by simp [Int.pow_succ, Int.mul_assoc], ⟨by omega, by rw [Int.pow_succ, ← Int.mul_assoc]; omega⟩, by omega⟩
                · have hkt : k = t.toNat := by omega
                  subst hkt
                  (try simp (disch := first | omega | (simp only [LN]; omega)) only [↓EC, EW, seval, ↓reduceIte, false_imp_iff])
                  refine LP_of (σ := Nat) 500000 [(68, 27, 1), (70, 27, 1), (72, 27, 1), (74, 27, 1), (100, 2, 1), (107, 2, 1)]
                    (fun k => [.int .i64 (t - t.toNat + k)]) (fun k => [[.int .i64 an, .int .i64 ad], [.int .i64 bn, .int .i64 bd], [.int .i64 0, .int .i64 0], [.int .i64 (on * p ^ t.toNat), .int .i64 (od * p ^ k)], vi .i64 (l'), vi .i64 (pw m n)])
                    (fun k => k ≤ (-t).toNat ∧ od * p ^ k ≤ 1000000000) (fun k => (-t).toNat - k) 0 (by simp [frameOk, names, lpz, sclp, scv, scvs, vi_nrf, vb_nrf, vt_nrf, v2_nrf, v3_nrf, nrfs, nrf, sc_vi, sc_vb, sc_vt, sc_v2, sc_v3, sc_vo, sc_vl, vo_nrf, vl_nrf, sc_vn, vn_nrf]) ⟨by omega, by simpa using h5⟩ ?_ ?_
                  · simp (disch := first | omega | (simp only [LN]; omega)) only [↓EC, EW, seval, ↓reduceIte, false_imp_iff, ColV_def]
                    simp
                  · rintro k ⟨k1, k3⟩
                    have hk0 : 0 < od * p ^ k := Int.mul_pos hod (Int.pow_pos (by omega))
                    have hkm := mul_limN (a := od * p ^ k) (b := p) (A := 1000000000) (B := 1000000000) (by omega) (by omega)
                    have hkn : 0 < od * p ^ k * p := Int.mul_pos hk0 (by omega)
                    simp (disch := first | omega | (simp only [LN]; omega)) only [↓EC, EW, seval, ↓reduceIte, false_imp_iff, ColV_def, lheap_def]
                    (refine Split.mk (fun h => ?_) (fun h => ?_) <;> (try simp only [decide_eq_true_eq, decide_eq_false_iff_not, beq_iff_eq, bne_iff_ne, beq_eq_false_iff_ne, bne_eq_false_iff_eq, Bool.not_eq_true', Bool.not_eq_false', Bool.and_eq_true, Bool.or_eq_true, Bool.and_eq_false_iff, Bool.or_eq_false_iff, Int.not_lt, Int.not_le, Bool.false_eq_true, Bool.true_eq_false, false_and, and_false, true_and, and_true, or_false, false_or, or_true, true_or, not_true_eq_false, not_false_eq_true] at h))
                    · have hkt : k < (-t).toNat := by omega
                      have hmo := pow_mono hod p2 hkt
                      (try simp (disch := first | omega | (simp only [LN]; omega)) only [↓EC, EW, seval, ↓reduceIte, false_imp_iff])
                      (refine Split.mk (fun h => ?_) (fun h => ?_) <;> (try simp only [decide_eq_true_eq, decide_eq_false_iff_not, beq_iff_eq, bne_iff_ne, beq_eq_false_iff_ne, bne_eq_false_iff_eq, Bool.not_eq_true', Bool.not_eq_false', Bool.and_eq_true, Bool.or_eq_true, Bool.and_eq_false_iff, Bool.or_eq_false_iff, Int.not_lt, Int.not_le, Bool.false_eq_true, Bool.true_eq_false, false_and, and_false, true_and, and_true, or_false, false_or, or_true, true_or, not_true_eq_false, not_false_eq_true] at h))
                      · (try simp (disch := first | omega | (simp only [LN]; omega)) only [↓EC, EW, seval, ↓reduceIte, false_imp_iff])
                        exact hfail (by omega)
                      · (try simp (disch := first | omega | (simp only [LN]; omega)) only [↓EC, EW, seval, ↓reduceIte, false_imp_iff])
                        exact ⟨k + 1, by simp; omega, by simp [Int.pow_succ, Int.mul_assoc], ⟨by omega, by rw [Int.pow_succ, ← Int.mul_assoc]; omega⟩, by omega⟩
                    · have hkt : k = (-t).toNat := by omega
                      subst hkt
                      (try simp (disch := first | omega | (simp only [LN]; omega)) only [↓EC, EW, seval, ↓reduceIte, false_imp_iff])
                      exact ⟨(l', on * p ^ t.toNat, od * p ^ (-t).toNat), rfl, ⟨gl, g2.pos, hR, k2, k3⟩, by simp only; omega⟩
end Go.Proofs.Ytlfpiegadaiafaa.Sep
end
section
/- The value of a move: spec.l10At, and the law of MoveFraction. -/
namespace Go.Proofs.Ytlfpiegadaiafaa.Sep
open Go.RowKit
set_option linter.unusedVariables false
set_option linter.unusedSimpArgs false
set_option maxRecDepth 20000
set_option maxHeartbeats 4000000

theorem isFr_rd {U V : Int} (hV : V ≠ 0) : isFr (rd U V).1 (rd U V).2 = true ↔ (rd U V).1.natAbs ≤ 1000000000 ∧ (rd U V).2 ≤ 1000000000 := by
  obtain ⟨h1, h2, h3⟩ := rd_spec (U := U) hV
  rw [isFr_iff]
  constructor
  · rintro ⟨a, b, c, d, e, f⟩; omega
  · rintro ⟨a, b⟩; exact ⟨by omega, by omega, by omega, by omega, h2, .inl h1⟩
theorem rd_small {f l : Int} (hf : 1 ≤ f ∧ f ≤ 20) (hl : 1 ≤ l ∧ l ≤ 20) : 0 < (rd (f + l) f).2 ∧ (rd (f + l) f).2 ≤ 20 ∧ (rd (f + l) f).1.natAbs ≤ 40 ∧ cop (rd (f + l) f).1 (rd (f + l) f).2 ∧ (rd (f + l) f).1 * f = (f + l) * (rd (f + l) f).2 := by
  obtain ⟨h1, h2, h3⟩ := rd_spec (U := f + l) (V := f) (by omega)
  obtain ⟨h4, h5⟩ := rd_le (U := f + l) (V := f) (by omega)
  exact ⟨h1, by omega, by omega, h2, h3⟩
/-- One of the two factors, before it is raised. -/
theorem times_ratio {x v f s : Int} {yn yd an ad : Int} (hy : 0 < yd) (h1 : yn * f = s * yd) (h2 : an * (v * yd) = x * yn * ad) : an * (v * f) = x * s * ad := by
  refine Int.eq_of_mul_eq_mul_right (a := yd) (by omega) ?_
  calc an * (v * f) * yd = an * (v * yd) * f := by ac_rfl
    _ = x * yn * ad * f := by rw [h2]
    _ = x * ad * (yn * f) := by ac_rfl
    _ = x * ad * (s * yd) := by rw [h1]
    _ = _ := by ac_rfl
theorem c_spec_l10Value {f l u v : Int} (hf : 1 ≤ f ∧ f ≤ 20) (hl : 1 ≤ l ∧ l ≤ 20) (hx : isFr u v = true) :
    PSpec Try.prog 77 [.int .i64 f, .int .i64 l, .agg [.int .i64 u, .int .i64 v]] fun w => w = prdV (mvO 2 f l u v) := by
  have hx' := isFr_iff.1 hx
  refine spec_l10Value_f.f ?_
  simp (disch := first | omega | (simp only [LN]; omega)) only [↓EC, EW, seval, ↓reduceIte, false_imp_iff, spec_l10Value_F]
  (refine Split.mk (fun h => ?_) (fun h => ?_) <;> (try simp only [decide_eq_true_eq, decide_eq_false_iff_not, beq_iff_eq, bne_iff_ne, beq_eq_false_iff_ne, bne_eq_false_iff_eq, Bool.not_eq_true', Bool.not_eq_false', Bool.and_eq_true, Bool.or_eq_true, Bool.and_eq_false_iff, Bool.or_eq_false_iff, Int.not_lt, Int.not_le, Bool.false_eq_true, Bool.true_eq_false, false_and, and_false, true_and, and_true, or_false, false_or, or_true, true_or, not_true_eq_false, not_false_eq_true] at h))
  · subst h
    have hu : u = 1 := by omega
    subst hu
    rfl
  · have hv : 0 < v := by omega
    have hc : cop u v := hx'.2.2.2.2.1
    have hw : cop (v - u) v := cop_sub hc
    have e0 := num_rd (U := v - u) (V := v) (by omega)
    rw [rd_self hv hw] at e0
    have e1 := num_rd (U := f + l) (V := f) (by omega)
    have e2 := num_rd (U := f + l) (V := l) (by omega)
    obtain ⟨y1, y2, y3, y4, y5⟩ := rd_small hf hl
    obtain ⟨z1, z2, z3, z4, z5⟩ := rd_small hl hf
    rw [Int.add_comm l f] at z1 z2 z3 z4 z5
    rw [mvO_2 h]
    obtain ⟨F, rfl⟩ : ∃ F : Nat, f = F := ⟨f.toNat, by omega⟩
    obtain ⟨L, rfl⟩ : ∃ L : Nat, l = L := ⟨l.toNat, by omega⟩
    simp only [Int.toNat_natCast]
    generalize hr1 : rd ((F : Int) + L) F = r1 at *
    generalize hr2 : rd ((F : Int) + L) L = r2 at *
    obtain ⟨pn, pd⟩ := r1
    obtain ⟨qn, qd⟩ := r2
    simp only at *
    have ha := rd_spec (U := u * pn) (V := v * pd) (by have := Int.mul_pos hv y1; omega)
    have hb := rd_spec (U := (v - u) * qn) (V := v * qd) (by have := Int.mul_pos hv z1; omega)
    have ha2 := isFr_rd (U := u * pn) (V := v * pd) (by have := Int.mul_pos hv y1; omega)
    have hb2 := isFr_rd (U := (v - u) * qn) (V := v * qd) (by have := Int.mul_pos hv z1; omega)
    have hal := rd_le (U := u * pn) (V := v * pd) (Int.mul_pos hv y1)
    have hbl := rd_le (U := (v - u) * qn) (V := v * qd) (Int.mul_pos hv z1)
    have m1 : (u * pn).natAbs ≤ u.natAbs * 40 := by rw [Int.natAbs_mul]; exact Nat.mul_le_mul_left _ y3
    have m2 : v * pd ≤ v * 20 := Int.mul_le_mul_of_nonneg_left y2 (by omega)
    have m3 : ((v - u) * qn).natAbs ≤ (v - u).natAbs * 40 := by rw [Int.natAbs_mul]; exact Nat.mul_le_mul_left _ z3
    have m4 : v * qd ≤ v * 20 := Int.mul_le_mul_of_nonneg_left z2 (by omega)
    have big : (25000000 < u.natAbs ∨ 25000000 < (v - u).natAbs ∨ 50000000 < v) → (.tup [.agg [.int .i64 0, .int .i64 0], .bool false] : V) = prdV (okPf (rd (vU F L u v) (vV F L v))) := by
      intro hbig
      have := rd_big (f := F) (l := L) (u := u) (v := v) (by omega) (by omega) hv hc hbig
      have hp := rd_spec (U := vU F L u v) (V := vV F L v) (by have := vV_pos (f := F) (l := L) (v := v) (by omega) (by omega) hv; omega)
      rw [prdV_no (by omega)]
    (refine pcd_v (c_spec_l10Make (by omega) (by unfold lim62; omega) (by unfold lim62; omega)) ?_; (try simp (disch := first | omega | (simp only [LN]; omega)) only [↓EC, EW, seval, ↓reduceIte, false_imp_iff]))
    (refine pcd_v (c_spec_l10Make (by omega) (by unfold lim62; omega) (by unfold lim62; omega)) ?_; (try simp (disch := first | omega | (simp only [LN]; omega)) only [↓EC, EW, seval, ↓reduceIte, false_imp_iff]))
    (refine pcd_v (c_spec_l10Make (by omega) (by unfold lim62; omega) (by unfold lim62; omega)) ?_; (try simp (disch := first | omega | (simp only [LN]; omega)) only [↓EC, EW, seval, ↓reduceIte, false_imp_iff]))
    rw [e0.1, e0.2, e1.1, e1.2, e2.1, e2.2]
    refine pcd_v (c_spec_l10Times hv y1 hc y4 (by omega) (by omega) (by omega) (by omega)) ?_
    generalize hra : rd (u * pn) (v * pd) = ra at *
    obtain ⟨an, ad⟩ := ra
    generalize hrb : rd ((v - u) * qn) (v * qd) = rb at *
    obtain ⟨bn, bd⟩ := rb
    simp only at ha hb ha2 hb2 hal hbl
    (try simp (disch := first | omega | (simp only [LN]; omega)) only [↓EC, EW, seval, ↓reduceIte, false_imp_iff])
    have one : isFr (v - u) v = true ∨ 25000000 < (v - u).natAbs := by
      by_cases hq : (v - u).natAbs ≤ 1000000000
      · left; rw [isFr_iff]; exact ⟨by omega, by omega, by omega, by omega, hw, .inl hv⟩
      · right; omega
    (refine Split.mk (fun h => ?_) (fun h => ?_) <;> (try simp only [decide_eq_true_eq, decide_eq_false_iff_not, beq_iff_eq, bne_iff_ne, beq_eq_false_iff_ne, bne_eq_false_iff_eq, Bool.not_eq_true', Bool.not_eq_false', Bool.and_eq_true, Bool.or_eq_true, Bool.and_eq_false_iff, Bool.or_eq_false_iff, Int.not_lt, Int.not_le, Bool.false_eq_true, Bool.true_eq_false, false_and, and_false, true_and, and_true, or_false, false_or, or_true, true_or, not_true_eq_false, not_false_eq_true] at h))
    · refine big (.inr (.inl ?_))
      rcases one with h' | h'
      · rw [h'] at h; cases h
      · exact h'
    (refine Split.mk (fun h => ?_) (fun h => ?_) <;> (try simp only [decide_eq_true_eq, decide_eq_false_iff_not, beq_iff_eq, bne_iff_ne, beq_eq_false_iff_ne, bne_eq_false_iff_eq, Bool.not_eq_true', Bool.not_eq_false', Bool.and_eq_true, Bool.or_eq_true, Bool.and_eq_false_iff, Bool.or_eq_false_iff, Int.not_lt, Int.not_le, Bool.false_eq_true, Bool.true_eq_false, false_and, and_false, true_and, and_true, or_false, false_or, or_true, true_or, not_true_eq_false, not_false_eq_true] at h))
    · refine big ?_
      have hn : ¬ (an.natAbs ≤ 1000000000 ∧ ad ≤ 1000000000) := fun h' => by rw [ha2.2 h'] at h; cases h
      omega
    have la := ha2.1 (by assumption)
    refine pcd_v (c_spec_l10Times hv z1 hw z4 (by omega) (by omega) (by omega) (by omega)) ?_
    rw [hrb]
    (try simp (disch := first | omega | (simp only [LN]; omega)) only [↓EC, EW, seval, ↓reduceIte, false_imp_iff])
    (refine Split.mk (fun h => ?_) (fun h => ?_) <;> (try simp only [decide_eq_true_eq, decide_eq_false_iff_not, beq_iff_eq, bne_iff_ne, beq_eq_false_iff_ne, bne_eq_false_iff_eq, Bool.not_eq_true', Bool.not_eq_false', Bool.and_eq_true, Bool.or_eq_true, Bool.and_eq_false_iff, Bool.or_eq_false_iff, Int.not_lt, Int.not_le, Bool.false_eq_true, Bool.true_eq_false, false_and, and_false, true_and, and_true, or_false, false_or, or_true, true_or, not_true_eq_false, not_false_eq_true] at h))
    · (try simp (disch := first | omega | (simp only [LN]; omega)) only [↓EC, EW, seval, ↓reduceIte, false_imp_iff])
      refine big ?_
      have hn : ¬ (bn.natAbs ≤ 1000000000 ∧ bd ≤ 1000000000) := fun h' => by rw [hb2.2 h'] at h; cases h
      omega
    have lb := hb2.1 (by assumption)
    (try simp (disch := first | omega | (simp only [LN]; omega)) only [↓EC, EW, seval, ↓reduceIte, false_imp_iff])
    refine pcd_v (c_spec_l10Product (m := F) (n := L) (by omega) (by omega) la.1 ⟨ha.1, la.2⟩ lb.1 ⟨hb.1, lb.2⟩) ?_
    rw [rd_pows (f := F) (l := L) (u := u) (v := v) (by omega) (by omega) hv ha.1 hb.1 (times_ratio y1 y5 ha.2.2) (times_ratio z1 z5 hb.2.2)]
    rcases frV_cases (okPf (rd (vU F L u v) (vV F L v))) with ⟨a, b, ho⟩ | ho <;> rw [ho] <;> (try simp (disch := first | omega | (simp only [LN]; omega)) only [↓EC, EW, seval, ↓reduceIte, false_imp_iff, prdV])

/-! ### The value of a move -/
def atR (o : Option (Int × Int)) (v : V) : Prop := (∃ a b, o = some (a, b) ∧ v = .tup [.agg [.int .i64 a, .int .i64 b], .bool true]) ∨ o = none ∧ ∃ a b, v = .tup [.agg [.int .i64 a, .int .i64 b], .bool false]
theorem atR_rd {U V : Int} (hV : V ≠ 0) : atR (okPf (rd U V)) (.tup [.agg [.int .i64 (rd U V).1, .int .i64 (rd U V).2], .bool (isFr (rd U V).1 (rd U V).2)]) := by
  have h := isFr_rd (U := U) hV
  unfold okPf
  by_cases hq : (rd U V).1.natAbs ≤ 1000000000 ∧ (rd U V).2 ≤ 1000000000
  · rw [if_pos hq, h.2 hq]
    exact .inl ⟨_, _, rfl, rfl⟩
  · rw [if_neg hq]
    have : isFr (rd U V).1 (rd U V).2 = false := by
      cases hh : isFr (rd U V).1 (rd U V).2 with
      | false => rfl
      | true => exact absurd (h.1 hh) hq
    rw [this]
    exact .inr ⟨rfl, _, _, rfl⟩
theorem c_spec_l10At {k f l n d : Int} (hm : isMoveB k f l = true) (hx : isFr n d = true) :
    PSpec Try.prog 57 [.agg [.int .i64 k, .int .i64 f, .int .i64 l], .agg [.int .i64 n, .int .i64 d]] fun v => atR (mvO k f l n d) v := by
  have hm' : k = 2 ∧ 1 ≤ f ∧ f ≤ 20 ∧ 1 ≤ l ∧ l ≤ 20 ∨ (k = 0 ∨ k = 1) ∧ f = 0 ∧ l = 0 := by simpa [isMoveB] using hm
  have hx' := isFr_iff.1 hx
  refine spec_l10At_f.f ?_
  rcases hm' with ⟨rfl, f1, f2, l1, l2⟩ | ⟨rfl | rfl, rfl, rfl⟩
  · simp (disch := first | omega | (simp only [LN]; omega)) only [↓EC, EW, seval, ↓reduceIte, false_imp_iff, spec_l10At_F]
    refine pcd_v (c_spec_l10Value ⟨f1, f2⟩ ⟨l1, l2⟩ hx) ?_
    rcases frV_cases (mvO 2 f l n d) with ⟨a, b, ho⟩ | ho
    · rw [ho]
      (try simp (disch := first | omega | (simp only [LN]; omega)) only [↓EC, EW, seval, ↓reduceIte, false_imp_iff, prdV])
      exact .inl ⟨_, _, rfl, rfl⟩
    · rw [ho]
      (try simp (disch := first | omega | (simp only [LN]; omega)) only [↓EC, EW, seval, ↓reduceIte, false_imp_iff, prdV])
      exact .inr ⟨rfl, _, _, rfl⟩
  · simp (disch := first | omega | (simp only [LN]; omega)) only [↓EC, EW, seval, ↓reduceIte, false_imp_iff, spec_l10At_F]
    (refine Split.mk (fun h => ?_) (fun h => ?_) <;> (try simp only [decide_eq_true_eq, decide_eq_false_iff_not, beq_iff_eq, bne_iff_ne, beq_eq_false_iff_ne, bne_eq_false_iff_eq, Bool.not_eq_true', Bool.not_eq_false', Bool.and_eq_true, Bool.or_eq_true, Bool.and_eq_false_iff, Bool.or_eq_false_iff, Int.not_lt, Int.not_le, Bool.false_eq_true, Bool.true_eq_false, false_and, and_false, true_and, and_true, or_false, false_or, or_true, true_or, not_true_eq_false, not_false_eq_true] at h))
    · have hn : n = 1 := by omega
      subst hn; subst h
      exact .inl ⟨_, _, rfl, rfl⟩
    · (try simp (disch := first | omega | (simp only [LN]; omega)) only [↓EC, EW, seval, ↓reduceIte, false_imp_iff])
      (refine pcd_v (c_spec_l10Make (by omega) (by unfold lim62; omega) (by unfold lim62; omega)) ?_; (try simp (disch := first | omega | (simp only [LN]; omega)) only [↓EC, EW, seval, ↓reduceIte, false_imp_iff]))
      have e := num_rd (U := d - n) (V := d) h
      rw [e.1, e.2, mvO_0 h]
      exact atR_rd h
  · simp (disch := first | omega | (simp only [LN]; omega)) only [↓EC, EW, seval, ↓reduceIte, false_imp_iff, spec_l10At_F]
    (refine pcd_v (c_spec_l10Make (by omega) (by unfold lim62; omega) (by unfold lim62; omega)) ?_; (try simp (disch := first | omega | (simp only [LN]; omega)) only [↓EC, EW, seval, ↓reduceIte, false_imp_iff]))
    by_cases hd : d = 0
    · have hn : n = 1 := by omega
      subst hn; subst hd
      exact .inl ⟨0, 1, rfl, by rw [show numOf 0 1 = 0 by decide, show denOf 0 1 = 1 by decide, show isFr 0 1 = true by decide]⟩
    · by_cases hn : n = 0
      · subst hn
        have hd1 : d = 1 := by
          have := hx'.2.2.2.2.1
          simp only [Int.zero_gcd] at this
          omega
        subst hd1
        exact .inl ⟨1, 0, rfl, by rw [show numOf 1 0 = 1 by decide, show denOf 1 0 = 0 by decide, show isFr 1 0 = true by decide]⟩
      · have e := num_rd (U := d) (V := n) hn
        rw [e.1, e.2, mvO_1 hd hn]
        exact atR_rd hn

/-! ### MoveFraction -/
def mfV (k f l n d : Int) : V := if isMoveB k f l = true ∧ isFr n d = true then frV (mvO k f l n d) else .tup [.agg [.int .i64 0, .int .i64 0], .int .i64 1]
theorem c_impl_MoveFraction {k f l n d : Int} : PSpec Try.prog 16 [.agg [.int .i64 k, .int .i64 f, .int .i64 l], .agg [.int .i64 n, .int .i64 d]] fun v => v = mfV k f l n d := by
  refine impl_MoveFraction_f.f ?_
  simp (disch := first | omega | (simp only [LN]; omega)) only [↓EC, EW, seval, ↓reduceIte, false_imp_iff, impl_MoveFraction_F]
  (refine pcd_v (c_impl_IsMove) ?_; (try simp (disch := first | omega | (simp only [LN]; omega)) only [↓EC, EW, seval, ↓reduceIte, false_imp_iff]))
  (refine Split.mk (fun h => ?_) (fun h => ?_) <;> (try simp only [decide_eq_true_eq, decide_eq_false_iff_not, beq_iff_eq, bne_iff_ne, beq_eq_false_iff_ne, bne_eq_false_iff_eq, Bool.not_eq_true', Bool.not_eq_false', Bool.and_eq_true, Bool.or_eq_true, Bool.and_eq_false_iff, Bool.or_eq_false_iff, Int.not_lt, Int.not_le, Bool.false_eq_true, Bool.true_eq_false, false_and, and_false, true_and, and_true, or_false, false_or, or_true, true_or, not_true_eq_false, not_false_eq_true] at h))
  · unfold mfV; rw [if_neg (by simp_all)]
  · (try simp (disch := first | omega | (simp only [LN]; omega)) only [↓EC, EW, seval, ↓reduceIte, false_imp_iff])
    (refine pcd_v (c_impl_IsFraction) ?_; (try simp (disch := first | omega | (simp only [LN]; omega)) only [↓EC, EW, seval, ↓reduceIte, false_imp_iff]))
    (refine Split.mk (fun h => ?_) (fun h => ?_) <;> (try simp only [decide_eq_true_eq, decide_eq_false_iff_not, beq_iff_eq, bne_iff_ne, beq_eq_false_iff_ne, bne_eq_false_iff_eq, Bool.not_eq_true', Bool.not_eq_false', Bool.and_eq_true, Bool.or_eq_true, Bool.and_eq_false_iff, Bool.or_eq_false_iff, Int.not_lt, Int.not_le, Bool.false_eq_true, Bool.true_eq_false, false_and, and_false, true_and, and_true, or_false, false_or, or_true, true_or, not_true_eq_false, not_false_eq_true] at h))
    · unfold mfV; rw [if_neg (by simp_all)]
    · (try simp (disch := first | omega | (simp only [LN]; omega)) only [↓EC, EW, seval, ↓reduceIte, false_imp_iff])
      have hm : isMoveB k f l = true := by assumption
      have hx : isFr n d = true := by assumption
      refine pcd_v (c_impl_move hm hx) ?_
      unfold mfV
      rw [if_pos ⟨hm, hx⟩]
      rcases frV_cases (mvO k f l n d) with ⟨a, b, ho⟩ | ho <;> rw [ho] <;> (try simp (disch := first | omega | (simp only [LN]; omega)) only [↓EC, EW, seval, ↓reduceIte, false_imp_iff, frV])
theorem c_spec_MoveFraction {k f l n d : Int} : PSpec Try.prog 17 [.agg [.int .i64 k, .int .i64 f, .int .i64 l], .agg [.int .i64 n, .int .i64 d]] fun v => v = mfV k f l n d := by
  refine spec_MoveFraction_f.f ?_
  simp (disch := first | omega | (simp only [LN]; omega)) only [↓EC, EW, seval, ↓reduceIte, false_imp_iff, spec_MoveFraction_F]
  (refine pcd_v (c_spec_l10Move) ?_; (try simp (disch := first | omega | (simp only [LN]; omega)) only [↓EC, EW, seval, ↓reduceIte, false_imp_iff]))
  (refine Split.mk (fun h => ?_) (fun h => ?_) <;> (try simp only [decide_eq_true_eq, decide_eq_false_iff_not, beq_iff_eq, bne_iff_ne, beq_eq_false_iff_ne, bne_eq_false_iff_eq, Bool.not_eq_true', Bool.not_eq_false', Bool.and_eq_true, Bool.or_eq_true, Bool.and_eq_false_iff, Bool.or_eq_false_iff, Int.not_lt, Int.not_le, Bool.false_eq_true, Bool.true_eq_false, false_and, and_false, true_and, and_true, or_false, false_or, or_true, true_or, not_true_eq_false, not_false_eq_true] at h))
  · unfold mfV; rw [if_neg (by simp_all)]
  · (try simp (disch := first | omega | (simp only [LN]; omega)) only [↓EC, EW, seval, ↓reduceIte, false_imp_iff])
    (refine pcd_v (c_spec_l10Is) ?_; (try simp (disch := first | omega | (simp only [LN]; omega)) only [↓EC, EW, seval, ↓reduceIte, false_imp_iff]))
    (refine Split.mk (fun h => ?_) (fun h => ?_) <;> (try simp only [decide_eq_true_eq, decide_eq_false_iff_not, beq_iff_eq, bne_iff_ne, beq_eq_false_iff_ne, bne_eq_false_iff_eq, Bool.not_eq_true', Bool.not_eq_false', Bool.and_eq_true, Bool.or_eq_true, Bool.and_eq_false_iff, Bool.or_eq_false_iff, Int.not_lt, Int.not_le, Bool.false_eq_true, Bool.true_eq_false, false_and, and_false, true_and, and_true, or_false, false_or, or_true, true_or, not_true_eq_false, not_false_eq_true] at h))
    · unfold mfV; rw [if_neg (by simp_all)]
    · (try simp (disch := first | omega | (simp only [LN]; omega)) only [↓EC, EW, seval, ↓reduceIte, false_imp_iff])
      have hm : isMoveB k f l = true := by assumption
      have hx : isFr n d = true := by assumption
      refine pcd_r (c_spec_l10At hm hx) ?_
      unfold mfV
      rw [if_pos ⟨hm, hx⟩]
      rintro v (⟨a, b, ho, rfl⟩ | ⟨ho, a, b, rfl⟩) <;> rw [ho] <;> (try simp (disch := first | omega | (simp only [LN]; omega)) only [↓EC, EW, seval, ↓reduceIte, false_imp_iff, frV])
end Go.Proofs.Ytlfpiegadaiafaa.Sep
end
section
/- Moves one after the other: RunMoves. -/
namespace Go.Proofs.Ytlfpiegadaiafaa.Sep
open Go.RowKit
set_option linter.unusedVariables false
set_option linter.unusedSimpArgs false
set_option maxRecDepth 20000
set_option maxHeartbeats 4000000

def runO : List (Int × Int × Int) → Int × Int → Option (Int × Int)
  | [], x => some x
  | a :: l, x => (mvO a.1 a.2.1 a.2.2 x.1 x.2).bind (runO l)
theorem runO_drop {l : List (Int × Int × Int)} {i : Nat} (hi : i < l.length) (x : Int × Int) : runO (l.drop i) x = (mvO (g3 l i).1 (g3 l i).2.1 (g3 l i).2.2 x.1 x.2).bind (runO (l.drop (i + 1))) := by
  rw [drop_getD (d := (0, 0, 0)) hi]; rfl
def rmV (l : List (Int × Int × Int)) (n d : Int) : V :=
  if isFr n d = true then (if movesC l = 0 then frV (runO l (n, d)) else .tup [.agg [.int .i64 0, .int .i64 0], .int .i64 (movesC l)]) else .tup [.agg [.int .i64 0, .int .i64 0], .int .i64 1]
theorem c_impl_RunMoves {l : List (Int × Int × Int)} {n d : Int} (hl : l.length ≤ 1048576) : PSpec Try.prog 42 [.sl l.length (v3 .i64 l), .agg [.int .i64 n, .int .i64 d]] fun v => v = rmV l n d := by
  refine impl_RunMoves_f.f ?_
  simp (disch := first | omega | (simp only [LN]; omega)) only [↓EC, EW, seval, ↓reduceIte, false_imp_iff, impl_RunMoves_F]
  (refine pcd_v (c_impl_IsFraction) ?_; (try simp (disch := first | omega | (simp only [LN]; omega)) only [↓EC, EW, seval, ↓reduceIte, false_imp_iff]))
  (refine Split.mk (fun h => ?_) (fun h => ?_) <;> (try simp only [decide_eq_true_eq, decide_eq_false_iff_not, beq_iff_eq, bne_iff_ne, beq_eq_false_iff_ne, bne_eq_false_iff_eq, Bool.not_eq_true', Bool.not_eq_false', Bool.and_eq_true, Bool.or_eq_true, Bool.and_eq_false_iff, Bool.or_eq_false_iff, Int.not_lt, Int.not_le, Bool.false_eq_true, Bool.true_eq_false, false_and, and_false, true_and, and_true, or_false, false_or, or_true, true_or, not_true_eq_false, not_false_eq_true] at h))
  · unfold rmV; rw [if_neg (by simp_all)]
  · have hx : isFr n d = true := h
    (try simp (disch := first | omega | (simp only [LN]; omega)) only [↓EC, EW, seval, ↓reduceIte, false_imp_iff])
    (refine pcd_v (c_impl_movesCode hl) ?_; (try simp (disch := first | omega | (simp only [LN]; omega)) only [↓EC, EW, seval, ↓reduceIte, false_imp_iff]))
    (refine Split.mk (fun h => ?_) (fun h => ?_) <;> (try simp only [decide_eq_true_eq, decide_eq_false_iff_not, beq_iff_eq, bne_iff_ne, beq_eq_false_iff_ne, bne_eq_false_iff_eq, Bool.not_eq_true', Bool.not_eq_false', Bool.and_eq_true, Bool.or_eq_true, Bool.and_eq_false_iff, Bool.or_eq_false_iff, Int.not_lt, Int.not_le, Bool.false_eq_true, Bool.true_eq_false, false_and, and_false, true_and, and_true, or_false, false_or, or_true, true_or, not_true_eq_false, not_false_eq_true] at h))
    · unfold rmV; rw [if_pos hx, if_neg h]
    · have hc : movesC l = 0 := by simpa using h
      (try simp (disch := first | omega | (simp only [LN]; omega)) only [↓EC, EW, seval, ↓reduceIte, false_imp_iff])
      unfold rmV
      rw [if_pos hx, if_pos hc]
      refine LP_of (σ := Nat × Int × Int) 100000 [(67, 27, 1), (68, 27, 1)] (fun s => [.int .i64 s.1]) (fun s => [[.int .i64 s.2.1, .int .i64 s.2.2], [.int .i64 0, .int .i64 0]])
        (fun s => s.1 ≤ l.length ∧ isFr s.2.1 s.2.2 = true ∧ runO (l.drop s.1) s.2 = runO l (n, d)) (fun s => l.length - s.1) (0, n, d) (by simp [frameOk, names, lpz, sclp, scv, scvs, vi_nrf, vb_nrf, vt_nrf, v2_nrf, v3_nrf, nrfs, nrf, sc_vi, sc_vb, sc_vt, sc_v2, sc_v3, sc_vo, sc_vl, vo_nrf, vl_nrf, sc_vn, vn_nrf]) ⟨Nat.zero_le _, hx, rfl⟩ ?_ ?_
      · simp (disch := first | omega | (simp only [LN]; omega)) only [↓EC, EW, seval, ↓reduceIte, false_imp_iff, ColV_def]
      · rintro ⟨i, a, b⟩ ⟨h1, h2, h3⟩
        simp only at h1 h2 h3
        simp (disch := first | omega | (simp only [LN]; omega)) only [↓EC, EW, seval, ↓reduceIte, false_imp_iff, ColV_def, lheap_def]
        (refine Split.mk (fun h => ?_) (fun h => ?_) <;> (try simp only [decide_eq_true_eq, decide_eq_false_iff_not, beq_iff_eq, bne_iff_ne, beq_eq_false_iff_ne, bne_eq_false_iff_eq, Bool.not_eq_true', Bool.not_eq_false', Bool.and_eq_true, Bool.or_eq_true, Bool.and_eq_false_iff, Bool.or_eq_false_iff, Int.not_lt, Int.not_le, Bool.false_eq_true, Bool.true_eq_false, false_and, and_false, true_and, and_true, or_false, false_or, or_true, true_or, not_true_eq_false, not_false_eq_true] at h))
        · have hi : i < l.length := by omega
          have hm : isMoveB (g3 l i).1 (g3 l i).2.1 (g3 l i).2.2 = true := movesC_mv hc hi
          rw [runO_drop hi] at h3
          (try simp (disch := first | omega | (simp only [LN]; omega)) only [↓EC, EW, seval, ↓reduceIte, false_imp_iff])
          refine pcd_v (c_impl_move hm h2) ?_
          rcases frV_cases (mvO (g3 l i).1 (g3 l i).2.1 (g3 l i).2.2 a b) with ⟨x, y, ho⟩ | ho
          · have hy := mvO_fr h2 hm ho
            rw [ho] at h3 ⊢
            (try simp (disch := first | omega | (simp only [LN]; omega)) only [↓EC, EW, seval, ↓reduceIte, false_imp_iff, frV])
            exact ⟨(i + 1, x, y), by simp, rfl, ⟨by simp only; omega, hy, h3⟩, by simp only; omega⟩
          · rw [ho] at h3 ⊢
            rw [← h3]
            (try simp (disch := first | omega | (simp only [LN]; omega)) only [↓EC, EW, seval, ↓reduceIte, false_imp_iff, frV])
            try rfl
        · (try simp (disch := first | omega | (simp only [LN]; omega)) only [↓EC, EW, seval, ↓reduceIte, false_imp_iff])
          rw [List.drop_of_length_le (by omega)] at h3
          rw [← h3]
          rfl
theorem c_spec_RunMoves {l : List (Int × Int × Int)} {n d : Int} (hl : l.length ≤ 1048576) : PSpec Try.prog 43 [.sl l.length (v3 .i64 l), .agg [.int .i64 n, .int .i64 d]] fun v => v = rmV l n d := by
  refine spec_RunMoves_f.f ?_
  simp (disch := first | omega | (simp only [LN]; omega)) only [↓EC, EW, seval, ↓reduceIte, false_imp_iff, spec_RunMoves_F]
  (refine pcd_v (c_spec_l10Is) ?_; (try simp (disch := first | omega | (simp only [LN]; omega)) only [↓EC, EW, seval, ↓reduceIte, false_imp_iff]))
  (refine Split.mk (fun h => ?_) (fun h => ?_) <;> (try simp only [decide_eq_true_eq, decide_eq_false_iff_not, beq_iff_eq, bne_iff_ne, beq_eq_false_iff_ne, bne_eq_false_iff_eq, Bool.not_eq_true', Bool.not_eq_false', Bool.and_eq_true, Bool.or_eq_true, Bool.and_eq_false_iff, Bool.or_eq_false_iff, Int.not_lt, Int.not_le, Bool.false_eq_true, Bool.true_eq_false, false_and, and_false, true_and, and_true, or_false, false_or, or_true, true_or, not_true_eq_false, not_false_eq_true] at h))
  · unfold rmV; rw [if_neg (by simp_all)]
  · have hx : isFr n d = true := h
    (try simp (disch := first | omega | (simp only [LN]; omega)) only [↓EC, EW, seval, ↓reduceIte, false_imp_iff])
    (refine pcd_v (c_spec_l10Moves hl) ?_; (try simp (disch := first | omega | (simp only [LN]; omega)) only [↓EC, EW, seval, ↓reduceIte, false_imp_iff]))
    (refine Split.mk (fun h => ?_) (fun h => ?_) <;> (try simp only [decide_eq_true_eq, decide_eq_false_iff_not, beq_iff_eq, bne_iff_ne, beq_eq_false_iff_ne, bne_eq_false_iff_eq, Bool.not_eq_true', Bool.not_eq_false', Bool.and_eq_true, Bool.or_eq_true, Bool.and_eq_false_iff, Bool.or_eq_false_iff, Int.not_lt, Int.not_le, Bool.false_eq_true, Bool.true_eq_false, false_and, and_false, true_and, and_true, or_false, false_or, or_true, true_or, not_true_eq_false, not_false_eq_true] at h))
    · unfold rmV; rw [if_pos hx, if_neg h]
    · have hc : movesC l = 0 := by simpa using h
      (try simp (disch := first | omega | (simp only [LN]; omega)) only [↓EC, EW, seval, ↓reduceIte, false_imp_iff])
      unfold rmV
      rw [if_pos hx, if_pos hc]
      refine LP_of (σ := Nat × Int × Int) 100000 [(67, 27, 1), (68, 27, 1)] (fun s => [.int .i64 s.1]) (fun s => [[.int .i64 s.2.1, .int .i64 s.2.2], [.int .i64 0, .int .i64 0]])
        (fun s => s.1 ≤ l.length ∧ isFr s.2.1 s.2.2 = true ∧ runO (l.drop s.1) s.2 = runO l (n, d)) (fun s => l.length - s.1) (0, n, d) (by simp [frameOk, names, lpz, sclp, scv, scvs, vi_nrf, vb_nrf, vt_nrf, v2_nrf, v3_nrf, nrfs, nrf, sc_vi, sc_vb, sc_vt, sc_v2, sc_v3, sc_vo, sc_vl, vo_nrf, vl_nrf, sc_vn, vn_nrf]) ⟨Nat.zero_le _, hx, rfl⟩ ?_ ?_
      · simp (disch := first | omega | (simp only [LN]; omega)) only [↓EC, EW, seval, ↓reduceIte, false_imp_iff, ColV_def]
      · rintro ⟨i, a, b⟩ ⟨h1, h2, h3⟩
        simp only at h1 h2 h3
        simp (disch := first | omega | (simp only [LN]; omega)) only [↓EC, EW, seval, ↓reduceIte, false_imp_iff, ColV_def, lheap_def]
        (refine Split.mk (fun h => ?_) (fun h => ?_) <;> (try simp only [decide_eq_true_eq, decide_eq_false_iff_not, beq_iff_eq, bne_iff_ne, beq_eq_false_iff_ne, bne_eq_false_iff_eq, Bool.not_eq_true', Bool.not_eq_false', Bool.and_eq_true, Bool.or_eq_true, Bool.and_eq_false_iff, Bool.or_eq_false_iff, Int.not_lt, Int.not_le, Bool.false_eq_true, Bool.true_eq_false, false_and, and_false, true_and, and_true, or_false, false_or, or_true, true_or, not_true_eq_false, not_false_eq_true] at h))
        · have hi : i < l.length := by omega
          have hm : isMoveB (g3 l i).1 (g3 l i).2.1 (g3 l i).2.2 = true := movesC_mv hc hi
          rw [runO_drop hi] at h3
          (try simp (disch := first | omega | (simp only [LN]; omega)) only [↓EC, EW, seval, ↓reduceIte, false_imp_iff])
          refine pcd_r (c_spec_l10At hm h2) ?_
          rintro v (⟨x, y, ho, rfl⟩ | ⟨ho, x, y, rfl⟩)
          · have hy := mvO_fr h2 hm ho
            rw [ho] at h3
            (try simp (disch := first | omega | (simp only [LN]; omega)) only [↓EC, EW, seval, ↓reduceIte, false_imp_iff])
            exact ⟨(i + 1, x, y), by simp, rfl, ⟨by simp only; omega, hy, h3⟩, by simp only; omega⟩
          · rw [ho] at h3
            rw [← h3]
            (try simp (disch := first | omega | (simp only [LN]; omega)) only [↓EC, EW, seval, ↓reduceIte, false_imp_iff])
            try rfl
        · (try simp (disch := first | omega | (simp only [LN]; omega)) only [↓EC, EW, seval, ↓reduceIte, false_imp_iff])
          rw [List.drop_of_length_le (by omega)] at h3
          rw [← h3]
          rfl
theorem rmV_cases (l : List (Int × Int × Int)) (n d : Int) : ∃ a b c, rmV l n d = .tup [.agg [.int .i64 a, .int .i64 b], .int .i64 c] := by
  unfold rmV
  split
  · split
    · rcases frV_cases (runO l (n, d)) with ⟨a, b, ho⟩ | ho <;> rw [ho]
      · exact ⟨a, b, 0, rfl⟩
      · exact ⟨0, 0, 3, rfl⟩
    · exact ⟨0, 0, _, rfl⟩
  · exact ⟨0, 0, 1, rfl⟩
end Go.Proofs.Ytlfpiegadaiafaa.Sep
end
section
/- Sets of fractions in order: the plain law. -/
namespace Go.Proofs.Ytlfpiegadaiafaa.Sep
open Go.RowKit
set_option linter.unusedVariables false
set_option linter.unusedSimpArgs false
set_option maxRecDepth 20000

/-! ### The order of fractions -/
theorem cmpF_refl {a : Int × Int} : cmpF a a = 0 := by unfold cmpF cmpFr; simp
theorem cmpF_eq {a b : Int × Int} (h : cmpF a b = 0) : a = b := by
  unfold cmpF cmpFr at h
  split at h
  · rename_i e; exact Prod.ext e.1 e.2
  · split at h
    · cases h
    · split at h
      · cases h
      · split at h <;> cases h
theorem cross_ne {n d m e : Int} (h1 : 0 < d) (h2 : 0 < e) (c1 : cop n d) (c2 : cop m e) (h : n * e = m * d) : n = m ∧ d = e := rd_uniq h1 h2 c1 c2 h
theorem isF_iff {a : Int × Int} : isF a = true ↔ (-1000000000 ≤ a.1 ∧ a.1 ≤ 1000000000 ∧ 0 ≤ a.2 ∧ a.2 ≤ 1000000000 ∧ Int.gcd a.1 a.2 = 1 ∧ (0 < a.2 ∨ a.1 = 1)) := isFr_iff
theorem cmpF_lt {a b : Int × Int} (ha : isF a = true) (hb : isF b = true) : cmpF a b < 0 ↔ a.2 ≠ 0 ∧ (b.2 = 0 ∨ a.1 * b.2 < b.1 * a.2) := by
  rw [isF_iff] at ha hb
  obtain ⟨n, d⟩ := a
  obtain ⟨m, e⟩ := b
  simp only at *
  unfold cmpF cmpFr
  simp only
  split
  · rename_i h; obtain ⟨rfl, rfl⟩ := h
    constructor
    · intro h; omega
    · rintro ⟨h1, h2 | h2⟩
      · exact absurd h2 h1
      · omega
  · split
    · constructor
      · intro h; omega
      · rintro ⟨h1, _⟩; exact absurd (by assumption) h1
    · split
      · constructor
        · intro _; exact ⟨by assumption, .inl (by assumption)⟩
        · intro _; omega
      · split
        · constructor
          · intro _; exact ⟨by assumption, .inr (by assumption)⟩
          · intro _; omega
        · constructor
          · intro h; omega
          · rintro ⟨_, h | h⟩
            · exact absurd h (by assumption)
            · exact absurd h (by assumption)
theorem cmpF_trans {a b c : Int × Int} (ha : isF a = true) (hb : isF b = true) (hc : isF c = true) (h1 : cmpF a b < 0) (h2 : cmpF b c < 0) : cmpF a c < 0 := by
  rw [cmpF_lt ha hb] at h1
  rw [cmpF_lt hb hc] at h2
  rw [cmpF_lt ha hc]
  rw [isF_iff] at ha hb hc
  refine ⟨h1.1, ?_⟩
  by_cases hz : c.2 = 0
  · exact .inl hz
  · right
    have g1 : a.1 * b.2 < b.1 * a.2 := by rcases h1.2 with h | h; exact absurd h h2.1; exact h
    have g2 : b.1 * c.2 < c.1 * b.2 := by rcases h2.2 with h | h; exact absurd h hz; exact h
    have e0 : 0 < b.2 := by omega
    have k1 : a.1 * b.2 * c.2 < b.1 * a.2 * c.2 := Int.mul_lt_mul_of_pos_right g1 (by omega)
    have k2 : b.1 * c.2 * a.2 < c.1 * b.2 * a.2 := Int.mul_lt_mul_of_pos_right g2 (by omega)
    refine Int.lt_of_mul_lt_mul_left (a := b.2) ?_ (by omega)
    calc b.2 * (a.1 * c.2) = a.1 * b.2 * c.2 := by ac_rfl
      _ < b.1 * a.2 * c.2 := k1
      _ = b.1 * c.2 * a.2 := by ac_rfl
      _ < c.1 * b.2 * a.2 := k2
      _ = _ := by ac_rfl
theorem cmpF_gt {a b : Int × Int} (ha : isF a = true) (hb : isF b = true) (h : ¬ cmpF a b < 0) (hne : a ≠ b) : cmpF b a < 0 := by
  rw [cmpF_lt hb ha]
  rw [cmpF_lt ha hb] at h
  rw [isF_iff] at ha hb
  have b2 : b.2 ≠ 0 := by
    intro hz
    by_cases ha2 : a.2 = 0
    · exact hne (Prod.ext (by omega) (by omega))
    · exact h ⟨ha2, .inl hz⟩
  refine ⟨b2, ?_⟩
  by_cases ha2 : a.2 = 0
  · exact .inl ha2
  · right
    have h1 : ¬ a.1 * b.2 < b.1 * a.2 := fun h' => h ⟨ha2, .inr h'⟩
    have h2 : a.1 * b.2 ≠ b.1 * a.2 := by
      intro h'
      obtain ⟨e1, e2⟩ := cross_ne (by omega) (by omega) ha.2.2.2.2.1 hb.2.2.2.2.1 h'
      exact hne (Prod.ext e1 e2)
    omega
theorem cmpF_asym {a b : Int × Int} (ha : isF a = true) (hb : isF b = true) (h : cmpF a b < 0) : ¬ cmpF b a < 0 := fun h' => by
  have := cmpF_trans ha hb ha h h'
  rw [cmpF_refl] at this; omega
theorem leF_trans {a b c : Int × Int} (ha : isF a = true) (hb : isF b = true) (hc : isF c = true) (h1 : ¬ cmpF b a < 0) (h2 : ¬ cmpF c b < 0) : ¬ cmpF c a < 0 := by
  intro h
  by_cases e1 : a = b
  · subst e1; exact h2 h
  · exact h2 (cmpF_trans hc ha hb h (cmpF_gt hb ha h1 (fun e => e1 e.symm)))

/-! ### Lists in strict order -/
def allF (l : List (Int × Int)) : Prop := ∀ a ∈ l, isF a = true
def strF (l : List (Int × Int)) : Prop := l.Pairwise fun a b => cmpF a b < 0
theorem strF_ext {l m : List (Int × Int)} (hl : allF l) (hm : allF m) (sl : strF l) (sm : strF m) (h : ∀ x, x ∈ l ↔ x ∈ m) : l = m := by
  induction l generalizing m with
  | nil =>
    cases m with
    | nil => rfl
    | cons b m => exact absurd ((h b).2 (by simp)) (by simp)
  | cons a l ih =>
    cases m with
    | nil => exact absurd ((h a).1 (by simp)) (by simp)
    | cons b m =>
      unfold strF at sl sm
      rw [List.pairwise_cons] at sl sm
      have fa := hl a (by simp)
      have fb := hm b (by simp)
      have hab : a = b := by
        rcases List.mem_cons.1 ((h a).1 (by simp)) with h1 | h1
        · exact h1
        · rcases List.mem_cons.1 ((h b).2 (by simp)) with h2 | h2
          · exact h2.symm
          · exact absurd (sl.1 b h2) (cmpF_asym fb fa (sm.1 a h1))
      subst hab
      rw [ih (m := m) (fun x hx => hl x (by simp [hx])) (fun x hx => hm x (by simp [hx])) sl.2 sm.2 ?_]
      intro x
      have irr : ∀ x, cmpF a x < 0 → x ≠ a := by rintro x h1 rfl; rw [cmpF_refl] at h1; omega
      constructor
      · intro hx
        rcases List.mem_cons.1 ((h x).1 (by simp [hx])) with h1 | h1
        · exact absurd h1 (irr x (sl.1 x hx))
        · exact h1
      · intro hx
        rcases List.mem_cons.1 ((h x).2 (by simp [hx])) with h1 | h1
        · exact absurd h1 (irr x (sm.1 x hx))
        · exact h1
/-- A fraction put into its place. -/
def insF (y : Int × Int) : List (Int × Int) → List (Int × Int)
  | [] => [y]
  | a :: s => if cmpF a y < 0 then a :: insF y s else if a = y then a :: s else y :: a :: s
theorem insF_mem {y : Int × Int} {s : List (Int × Int)} : ∀ x, x ∈ insF y s ↔ x = y ∨ x ∈ s := by
  induction s with
  | nil => intro x; simp [insF]
  | cons a s ih =>
    intro x
    simp only [insF]
    split
    · simp only [List.mem_cons, ih x]
      constructor
      · rintro (h | h | h) <;> simp [h]
      · rintro (h | h | h) <;> simp [h]
    · split
      · rename_i e; subst e
        simp
      · simp
theorem insF_all {y : Int × Int} {s : List (Int × Int)} (hy : isF y = true) (hs : allF s) : allF (insF y s) := by
  intro x hx
  rcases (insF_mem x).1 hx with rfl | h
  · exact hy
  · exact hs x h
theorem insF_str {y : Int × Int} {s : List (Int × Int)} (hy : isF y = true) (hs : allF s) (h : strF s) : strF (insF y s) := by
  induction s with
  | nil => simp [insF, strF]
  | cons a s ih =>
    unfold strF at h
    rw [List.pairwise_cons] at h
    have fa := hs a (by simp)
    have fs : allF s := fun x hx => hs x (by simp [hx])
    simp only [insF]
    split
    · rename_i h1
      unfold strF
      rw [List.pairwise_cons]
      refine ⟨fun x hx => ?_, ih fs h.2⟩
      rcases (insF_mem x).1 hx with rfl | h2
      · exact h1
      · exact h.1 x h2
    · split
      · unfold strF; rw [List.pairwise_cons]; exact h
      · rename_i h1 h2
        have h3 := cmpF_gt fa hy h1 h2
        unfold strF
        rw [List.pairwise_cons]
        refine ⟨fun x hx => ?_, by rw [List.pairwise_cons]; exact h⟩
        rcases List.mem_cons.1 hx with rfl | h4
        · exact h3
        · exact cmpF_trans hy fa (fs x h4) h3 (h.1 x h4)
theorem insF_len {y : Int × Int} {s : List (Int × Int)} : (insF y s).length ≤ s.length + 1 := by
  induction s with
  | nil => simp [insF]
  | cons a s ih =>
    simp only [insF]
    split
    · simp only [List.length_cons]; omega
    · split <;> simp
/-- How spec finds the place. -/
theorem insF_at {y : Int × Int} {s : List (Int × Int)} {k : Nat} (hk : k ≤ s.length) (h1 : ∀ j, j < k → cmpF (g2 s j) y < 0) (h2 : k < s.length → ¬ cmpF (g2 s k) y < 0) :
    insF y s = if k = s.length ∨ g2 s k ≠ y then s.take k ++ y :: s.drop k else s := by
  induction s generalizing k with
  | nil =>
    have : k = 0 := by simpa using hk
    subst this
    simp [insF]
  | cons a s ih =>
    cases k with
    | zero =>
      have h3 : ¬ cmpF a y < 0 := h2 (by simp)
      have h4 : g2 (a :: s) 0 = a := rfl
      simp only [insF]
      rw [if_neg h3, h4]
      by_cases e : a = y
      · subst e; simp
      · simp [e]
    | succ k =>
      have h3 : cmpF a y < 0 := h1 0 (by omega)
      have h4 : ∀ j, g2 (a :: s) (j + 1) = g2 s j := fun j => rfl
      simp only [insF]
      rw [if_pos h3, ih (k := k) (by simpa using hk) (fun j hj => h1 (j + 1) (by omega)) (fun h => h2 (by simpa using h)), h4]
      simp only [List.length_cons, Nat.add_right_cancel_iff, List.take_succ_cons, List.drop_succ_cons, List.cons_append]
      split <;> rfl
def srtF (l : List (Int × Int)) : List (Int × Int) := l.foldl (fun s y => insF y s) []
theorem srtF_snoc {l : List (Int × Int)} {y : Int × Int} : srtF (l ++ [y]) = insF y (srtF l) := by simp [srtF]
theorem srtF_spec {l : List (Int × Int)} (h : allF l) : allF (srtF l) ∧ strF (srtF l) ∧ (∀ x, x ∈ srtF l ↔ x ∈ l) ∧ (srtF l).length ≤ l.length := by
  generalize hn : l.length = n
  induction n generalizing l with
  | zero =>
    have : l = [] := List.length_eq_zero_iff.1 hn
    subst this
    exact ⟨fun a ha => absurd ha (by simp [srtF]), by simp [srtF, strF], by simp [srtF], by simp [srtF]⟩
  | succ n ih =>
    obtain ⟨m, y, rfl⟩ : ∃ m y, l = m ++ [y] := ⟨l.dropLast, l.getLast (by intro e; subst e; simp at hn), (List.dropLast_concat_getLast _).symm⟩
    have hm : allF m := fun a ha => h a (by simp [ha])
    have hy : isF y = true := h y (by simp)
    obtain ⟨i1, i2, i3, i4⟩ := ih hm (by simpa using hn)
    rw [srtF_snoc]
    refine ⟨insF_all hy i1, insF_str hy i1 i2, fun x => ?_, ?_⟩
    · rw [insF_mem x, i3 x]; simp [or_comm]
    · have := insF_len (y := y) (s := srtF m)
      omega

/-! ### Lists in weak order, without what is there twice -/
def wkF (l : List (Int × Int)) (n : Nat) : Prop := ∀ p q, p < q → q < n → ¬ cmpF (g2 l q) (g2 l p) < 0
def ddF (l : List (Int × Int)) : Nat → List (Int × Int)
  | 0 => []
  | 1 => [g2 l 0]
  | i + 2 => if g2 l (i + 1) = g2 l i then ddF l (i + 1) else ddF l (i + 1) ++ [g2 l (i + 1)]
theorem ddF_len {l : List (Int × Int)} {i : Nat} : (ddF l i).length ≤ i := by
  induction i with
  | zero => simp [ddF]
  | succ i ih =>
    cases i with
    | zero => simp [ddF]
    | succ i =>
      simp only [ddF]
      split
      · omega
      · simp only [List.length_append, List.length_cons, List.length_nil]; omega
theorem ddF_mem {l : List (Int × Int)} {i : Nat} : ∀ x, x ∈ ddF l i ↔ ∃ j, j < i ∧ x = g2 l j := by
  induction i with
  | zero => intro x; simp [ddF]
  | succ i ih =>
    intro x
    cases i with
    | zero => simp [ddF]
    | succ i =>
      simp only [ddF]
      split
      · rename_i e
        rw [ih x]
        constructor
        · rintro ⟨j, hj, rfl⟩; exact ⟨j, by omega, rfl⟩
        · rintro ⟨j, hj, rfl⟩
          by_cases h : j = i + 1
          · subst h; exact ⟨i, by omega, e⟩
          · exact ⟨j, by omega, rfl⟩
      · rw [List.mem_append, ih x]
        simp only [List.mem_cons, List.not_mem_nil, or_false]
        constructor
        · rintro (⟨j, hj, rfl⟩ | rfl)
          · exact ⟨j, by omega, rfl⟩
          · exact ⟨i + 1, by omega, rfl⟩
        · rintro ⟨j, hj, rfl⟩
          by_cases h : j = i + 1
          · subst h; exact .inr rfl
          · exact .inl ⟨j, by omega, rfl⟩
theorem ddF_str {l : List (Int × Int)} {i n : Nat} (hF : ∀ j, j < n → isF (g2 l j) = true) (h : wkF l n) (hi : i ≤ n) : strF (ddF l i) := by
  induction i with
  | zero => simp [ddF, strF]
  | succ i ih =>
    cases i with
    | zero => simp [ddF, strF]
    | succ i =>
      have hs := ih (by omega)
      simp only [ddF]
      split
      · exact hs
      · rename_i hne
        unfold strF
        rw [List.pairwise_append]
        refine ⟨hs, by simp, fun a ha b hb => ?_⟩
        simp only [List.mem_cons, List.not_mem_nil, or_false] at hb
        subst hb
        obtain ⟨j, hj, rfl⟩ := (ddF_mem a).1 ha
        -- g2 l j ≤ g2 l i < g2 l (i+1)
        have h1 : cmpF (g2 l i) (g2 l (i + 1)) < 0 := cmpF_gt (hF _ (by omega)) (hF _ (by omega)) (h i (i + 1) (by omega) (by omega)) hne
        by_cases e : g2 l j = g2 l i
        · rw [e]; exact h1
        · have hj2 : j < i := by
            have : j ≠ i := by rintro rfl; exact e rfl
            omega
          exact cmpF_trans (hF _ (by omega)) (hF _ (by omega)) (hF _ (by omega)) (cmpF_gt (hF _ (by omega)) (hF _ (by omega)) (h j i hj2 (by omega)) (fun e' => e e'.symm)) h1
theorem mem_g2 {l : List (Int × Int)} {x : Int × Int} : x ∈ l ↔ ∃ j, j < l.length ∧ x = g2 l j := by
  constructor
  · intro h
    obtain ⟨j, hj, rfl⟩ := List.getElem_of_mem h
    exact ⟨j, hj, by simp [g2, List.getD, hj]⟩
  · rintro ⟨j, hj, rfl⟩
    have : g2 l j = l[j] := by simp [g2, List.getD, hj]
    rw [this]; exact List.getElem_mem _
/-- Sorting and leaving out doubles is putting into place one by one. -/
theorem ddF_srt {l m : List (Int × Int)} (hl : allF l) (hm : ∀ x, x ∈ m ↔ x ∈ l) (hw : wkF m m.length) : ddF m m.length = srtF l := by
  obtain ⟨s1, s2, s3, _⟩ := srtF_spec hl
  have hF : ∀ j, j < m.length → isF (g2 m j) = true := fun j hj => hl _ ((hm _).1 (mem_g2.2 ⟨j, hj, rfl⟩))
  refine strF_ext (fun a ha => ?_) s1 (ddF_str hF hw (Nat.le_refl _)) s2 fun x => ?_
  · obtain ⟨j, hj, rfl⟩ := (ddF_mem a).1 ha
    exact hF j hj
  · rw [s3 x, ddF_mem x, ← hm x, mem_g2]
/-! ### The image of a list -/
def imO (k f l : Int) : List (Int × Int) → Option (List (Int × Int))
  | [] => some []
  | x :: s => (mvO k f l x.1 x.2).bind fun y => (imO k f l s).map (y :: ·)
theorem imO_app {k f l : Int} {s t : List (Int × Int)} : imO k f l (s ++ t) = (imO k f l s).bind fun a => (imO k f l t).map (a ++ ·) := by
  induction s with
  | nil => simp [imO]
  | cons x s ih =>
    simp only [List.cons_append, imO, ih]
    cases mvO k f l x.1 x.2 with
    | none => rfl
    | some y =>
      simp only [Option.bind_some]
      cases imO k f l s with
      | none => rfl
      | some a =>
        simp only [Option.bind_some, Option.map_some]
        cases imO k f l t <;> rfl
theorem imO_yes {k f l : Int} {s a : List (Int × Int)} {i : Nat} {y : Int × Int} (hi : i < s.length) (h : imO k f l (s.take i) = some a) (hy : mvO k f l (g2 s i).1 (g2 s i).2 = some y) :
    imO k f l (s.take (i + 1)) = some (a ++ [y]) := by
  have e : s.take (i + 1) = s.take i ++ [g2 s i] := by
    rw [← List.take_append_getElem hi]; congr 2; simp [g2, List.getD, hi]
  rw [e, imO_app, h]
  simp only [imO, hy, Option.bind_some, Option.map_some]
theorem imO_no {k f l : Int} {s : List (Int × Int)} {i : Nat} (hi : i < s.length) (hy : mvO k f l (g2 s i).1 (g2 s i).2 = none) : imO k f l s = none := by
  have e : s = s.take i ++ g2 s i :: s.drop (i + 1) := by
    conv => lhs; rw [← List.take_append_drop i s]
    rw [drop_getD (d := (0, 0)) hi]; rfl
  rw [e, imO_app]
  simp only [imO, hy, Option.bind_none, Option.map_none]
  cases imO k f l (s.take i) <;> rfl
theorem imO_all {k f l : Int} {s a : List (Int × Int)} (hm : isMoveB k f l = true) (hs : allF s) (h : imO k f l s = some a) : allF a ∧ a.length = s.length := by
  induction s generalizing a with
  | nil => simp only [imO, Option.some.injEq] at h; subst h; exact ⟨fun a ha => absurd ha (by simp), rfl⟩
  | cons x s ih =>
    simp only [imO] at h
    cases hx : mvO k f l x.1 x.2 with
    | none => rw [hx] at h; simp at h
    | some y =>
      rw [hx] at h
      simp only [Option.bind_some] at h
      cases ht : imO k f l s with
      | none => rw [ht] at h; simp at h
      | some b =>
        rw [ht] at h
        simp only [Option.map_some, Option.some.injEq] at h
        subst h
        obtain ⟨i1, i2⟩ := ih (fun z hz => hs z (by simp [hz])) ht
        refine ⟨fun z hz => ?_, by simp [i2]⟩
        rcases List.mem_cons.1 hz with rfl | hz
        · exact mvO_fr (hs x (by simp)) hm hx
        · exact i1 z hz
/-- The image of a set. -/
def imS (k f l : Int) (s : List (Int × Int)) : Option (List (Int × Int)) := (imO k f l s).map srtF
end Go.Proofs.Ytlfpiegadaiafaa.Sep
end
section
/- Sorting by a function and leaving out doubles: slices.SortFunc, slices.Compact. -/
namespace Go.Proofs.Ytlfpiegadaiafaa.Sep
open Go.RowKit
set_option linter.unusedVariables false
set_option linter.unusedSimpArgs false
set_option maxRecDepth 20000
set_option maxHeartbeats 4000000

theorem g2_of {l : List (Int × Int)} {i : Nat} (hi : i < l.length) : g2 l i = l[i] := by simp [g2, List.getD, hi]
/-! ### One step of the sort -/
def swpF (m : List (Int × Int)) (j : Nat) : List (Int × Int) := (m.set j (g2 m (j - 1))).set (j - 1) (g2 m j)
theorem swpF_len {m : List (Int × Int)} {j : Nat} : (swpF m j).length = m.length := by simp [swpF]
theorem swpF_get {m : List (Int × Int)} {j q : Nat} (h0 : 0 < j) (hj : j < m.length) (hq : q < m.length) : g2 (swpF m j) q = if q = j then g2 m (j - 1) else if q = j - 1 then g2 m j else g2 m q := by
  unfold swpF
  rw [g2_set, g2_set]
  simp only [List.length_set]
  by_cases h1 : q = j
  · subst h1
    rw [if_neg (by omega), if_pos ⟨rfl, hq⟩, if_pos rfl]
  · by_cases h2 : q = j - 1
    · subst h2
      rw [if_pos ⟨rfl, hq⟩, if_neg h1, if_pos rfl]
    · rw [if_neg (by omega), if_neg (by omega), if_neg h1, if_neg h2]
theorem swpF_mem {m : List (Int × Int)} {j : Nat} (h0 : 0 < j) (hj : j < m.length) (x : Int × Int) : x ∈ swpF m j ↔ x ∈ m := by
  rw [mem_g2, mem_g2]
  constructor
  · rintro ⟨q, hq, rfl⟩
    rw [swpF_len] at hq
    rw [swpF_get h0 hj hq]
    split
    · exact ⟨j - 1, by omega, rfl⟩
    · split
      · exact ⟨j, hj, rfl⟩
      · exact ⟨q, hq, rfl⟩
  · rintro ⟨q, hq, rfl⟩
    by_cases h1 : q = j
    · subst h1
      exact ⟨q - 1, by rw [swpF_len]; omega, by rw [swpF_get h0 hj (by omega), if_neg (by omega), if_pos rfl]⟩
    · by_cases h2 : q = j - 1
      · subst h2
        exact ⟨j, by rw [swpF_len]; omega, by rw [swpF_get h0 hj hj, if_pos rfl]⟩
      · exact ⟨q, by rw [swpF_len]; exact hq, by rw [swpF_get h0 hj hq, if_neg h1, if_neg h2]⟩
/-- In order but for the place 'j'. -/
def butF (m : List (Int × Int)) (i j : Nat) : Prop := ∀ p q, p < q → q ≤ i → q ≠ j → ¬ cmpF (g2 m q) (g2 m p) < 0
theorem butF_step {m : List (Int × Int)} {i j : Nat} (hF : ∀ q, q < m.length → isF (g2 m q) = true) (h : butF m i j) (h0 : 0 < j) (hj : j ≤ i) (hi : i < m.length) (hc : cmpF (g2 m j) (g2 m (j - 1)) < 0) : butF (swpF m j) i (j - 1) := by
  intro p q hpq hq hne
  rw [swpF_get h0 (by omega) (by omega), swpF_get h0 (by omega) (by omega)]
  have hle : ¬ cmpF (g2 m (j - 1)) (g2 m j) < 0 := cmpF_asym (hF _ (by omega)) (hF _ (by omega)) hc
  by_cases q1 : q = j
  · subst q1
    rw [if_pos rfl, if_neg (by omega)]
    by_cases p1 : p = q - 1
    · rw [if_pos p1]; exact hle
    · rw [if_neg p1]; exact h p (q - 1) (by omega) (by omega) (by omega)
  · rw [if_neg q1, if_neg hne]
    by_cases p1 : p = j
    · rw [if_pos p1]; exact h (j - 1) q (by omega) hq q1
    · rw [if_neg p1]
      by_cases p2 : p = j - 1
      · rw [if_pos p2]
        exact h j q (by omega) hq q1
      · rw [if_neg p2]; exact h p q hpq hq q1
theorem butF_end {m : List (Int × Int)} {i j : Nat} (hF : ∀ q, q < m.length → isF (g2 m q) = true) (h : butF m i j) (hj : j ≤ i) (hi : i < m.length) (hc : j = 0 ∨ ¬ cmpF (g2 m j) (g2 m (j - 1)) < 0) : wkF m (i + 1) := by
  intro p q hpq hq
  by_cases q1 : q = j
  · subst q1
    have hc' : ¬ cmpF (g2 m q) (g2 m (q - 1)) < 0 := by rcases hc with h1 | h1; omega; exact h1
    by_cases p1 : p = q - 1
    · rw [p1]; exact hc'
    · exact leF_trans (hF p (by omega)) (hF (q - 1) (by omega)) (hF q (by omega)) (h p (q - 1) (by omega) (by omega) (by omega)) hc'
  · exact h p q hpq (by omega) q1
theorem cmpFn : isFn Try.prog 52 = true := by kernel_rfl
theorem c_impl_compare {a b : Int × Int} (ha : isF a = true) (hb : isF b = true) : PSpec Try.prog 52 [.agg [.int .i64 a.1, .int .i64 a.2], .agg [.int .i64 b.1, .int .i64 b.2]] fun v => v = .int .i64 (cmpF a b) := c_impl_compareFractions ha hb
theorem c_insertionSortF {l : List (Int × Int)} {n : Nat} (hn : l.length = n) (hl : n ≤ 12) (hF : allF l) :
    PSpecM Try.prog 107 [.rf 0 0 n, .int .i64 0, .int .i64 n, .fn 52 []] [(0, 27, 2)] [v2 .i64 l]
      fun v c => v = .tup [] ∧ ∃ m, c = [v2 .i64 m] ∧ m.length = n ∧ (∀ x, x ∈ m ↔ x ∈ l) ∧ wkF m n := by
  subst hn
  refine slices_insertionSortCmpFunc_impl_Fraction_f.m rfl rfl ?_
  simp (disch := first | omega | (simp only [LN]; omega)) only [↓EC, EW, seval, ↓reduceIte, false_imp_iff, slices_insertionSortCmpFunc_impl_Fraction_F]
  refine LP_of (σ := Nat × List (Int × Int)) 100000 [(0, 27, 2)] (fun s => [.int .i64 s.1]) (fun s => [v2 .i64 s.2])
    (fun s => 1 ≤ s.1 ∧ s.1 ≤ 12 ∧ s.2.length = l.length ∧ (∀ x, x ∈ s.2 ↔ x ∈ l) ∧ wkF s.2 s.1) (fun s => l.length - s.1) (1, l) (by simp [frameOk, names, lpz, sclp, scv, scvs, vi_nrf, vb_nrf, vt_nrf, v2_nrf, v3_nrf, nrfs, nrf, sc_vi, sc_vb, sc_vt, sc_v2, sc_v3, sc_vo, sc_vl, vo_nrf, vl_nrf, sc_vn, vn_nrf]) ⟨by simp, by simp, rfl, fun x => Iff.rfl, fun p q hp hq => by simp only at hq; omega⟩ ?_ ?_
  · simp (disch := first | omega | (simp only [LN]; omega)) only [↓EC, EW, seval, ↓reduceIte, false_imp_iff, ColV_def]
  · rintro ⟨i, m⟩ ⟨h1, h2, h3, h4, h5⟩
    simp only at h1 h2 h3 h4 h5
    simp (disch := first | omega | (simp only [LN]; omega)) only [↓EC, EW, seval, ↓reduceIte, false_imp_iff, ColV_def, lheap_def]
    (refine Split.mk (fun h => ?_) (fun h => ?_) <;> (try simp only [decide_eq_true_eq, decide_eq_false_iff_not, beq_iff_eq, bne_iff_ne, beq_eq_false_iff_ne, bne_eq_false_iff_eq, Bool.not_eq_true', Bool.not_eq_false', Bool.and_eq_true, Bool.or_eq_true, Bool.and_eq_false_iff, Bool.or_eq_false_iff, Int.not_lt, Int.not_le, Bool.false_eq_true, Bool.true_eq_false, false_and, and_false, true_and, and_true, or_false, false_or, or_true, true_or, not_true_eq_false, not_false_eq_true] at h))
    · (try simp (disch := first | omega | (simp only [LN]; omega)) only [↓EC, EW, seval, ↓reduceIte, false_imp_iff])
      refine LP_of (σ := Nat × List (Int × Int)) 200000 [(0, 27, 2)] (fun s => [.int .i64 s.1]) (fun s => [v2 .i64 s.2])
        (fun s => s.1 ≤ i ∧ s.2.length = l.length ∧ (∀ x, x ∈ s.2 ↔ x ∈ l) ∧ butF s.2 i s.1) (fun s => s.1) (i, m) (by simp [frameOk, names, lpz, sclp, scv, scvs, vi_nrf, vb_nrf, vt_nrf, v2_nrf, v3_nrf, nrfs, nrf, sc_vi, sc_vb, sc_vt, sc_v2, sc_v3, sc_vo, sc_vl, vo_nrf, vl_nrf, sc_vn, vn_nrf]) ⟨by simp, h3, h4, fun p q hp hq hne => h5 p q hp (by simp only at hne; omega)⟩ ?_ ?_
      · simp (disch := first | omega | (simp only [LN]; omega)) only [↓EC, EW, seval, ↓reduceIte, false_imp_iff, ColV_def]
      · rintro ⟨j, m⟩ ⟨g1, g2', g3', g4⟩
        simp only at g1 g2' g3' g4
        have hFm : ∀ q, q < m.length → isF (g2 m q) = true := fun q hq => hF _ ((g3' _).1 (mem_g2.2 ⟨q, hq, rfl⟩))
        have hi : i < m.length := by omega
        simp (disch := first | omega | (simp only [LN]; omega)) only [↓EC, EW, seval, ↓reduceIte, false_imp_iff, ColV_def, lheap_def, cmpFn]
        have hjp : ((j : Int) - 1).toNat = j - 1 := by omega
        (try simp (disch := first | omega | (simp only [LN]; omega)) only [↓EC, EW, seval, ↓reduceIte, false_imp_iff, hjp])
        (refine Split.mk (fun h => ?_) (fun h => ?_) <;> (try simp only [decide_eq_true_eq, decide_eq_false_iff_not, beq_iff_eq, bne_iff_ne, beq_eq_false_iff_ne, bne_eq_false_iff_eq, Bool.not_eq_true', Bool.not_eq_false', Bool.and_eq_true, Bool.or_eq_true, Bool.and_eq_false_iff, Bool.or_eq_false_iff, Int.not_lt, Int.not_le, Bool.false_eq_true, Bool.true_eq_false, false_and, and_false, true_and, and_true, or_false, false_or, or_true, true_or, not_true_eq_false, not_false_eq_true] at h))
        · (try simp (disch := first | omega | (simp only [LN]; omega)) only [↓EC, EW, seval, ↓reduceIte, false_imp_iff, hjp])
          refine pcd_v (c_impl_compare (a := g2 m j) (b := g2 m (j - 1)) (hFm _ (by omega)) (hFm _ (by omega))) ?_
          (try simp (disch := first | omega | (simp only [LN]; omega)) only [↓EC, EW, seval, ↓reduceIte, false_imp_iff])
          (refine Split.mk (fun h => ?_) (fun h => ?_) <;> (try simp only [decide_eq_true_eq, decide_eq_false_iff_not, beq_iff_eq, bne_iff_ne, beq_eq_false_iff_ne, bne_eq_false_iff_eq, Bool.not_eq_true', Bool.not_eq_false', Bool.and_eq_true, Bool.or_eq_true, Bool.and_eq_false_iff, Bool.or_eq_false_iff, Int.not_lt, Int.not_le, Bool.false_eq_true, Bool.true_eq_false, false_and, and_false, true_and, and_true, or_false, false_or, or_true, true_or, not_true_eq_false, not_false_eq_true] at h))
          · (try simp (disch := first | omega | (simp only [LN]; omega)) only [↓EC, EW, seval, ↓reduceIte, false_imp_iff, hjp])
            exact ⟨(j - 1, swpF m j), by simp; omega, rfl, ⟨by simp only; omega, by rw [swpF_len]; exact g2', fun x => by rw [swpF_mem (by omega) (by omega)]; exact g3' x, butF_step hFm g4 (by omega) g1 hi h⟩, by simp only; omega⟩
          · have hh : ¬ cmpF (g2 m j) (g2 m (j - 1)) < 0 := by omega
            (try simp (disch := first | omega | (simp only [LN]; omega)) only [↓EC, EW, seval, ↓reduceIte, false_imp_iff])
            exact ⟨(i + 1, m), by simp, rfl, ⟨by simp only; omega, by simp only; omega, g2', g3', butF_end hFm g4 g1 hi (.inr hh)⟩, by simp only; omega⟩
        · have hj0 : j = 0 := by omega
          subst hj0
          (try simp (disch := first | omega | (simp only [LN]; omega)) only [↓EC, EW, seval, ↓reduceIte, false_imp_iff])
          exact ⟨(i + 1, m), by simp, rfl, ⟨by simp only; omega, by simp only; omega, g2', g3', butF_end hFm g4 (by omega) hi (.inl rfl)⟩, by simp only; omega⟩
    · (try simp (disch := first | omega | (simp only [LN]; omega)) only [↓EC, EW, seval, ↓reduceIte, false_imp_iff])
      exact ⟨m, rfl, h3, h4, fun p q hp hq => h5 p q hp (by omega)⟩
theorem c_pdqsortF {l : List (Int × Int)} {n : Nat} {k : Int} (hn : l.length = n) (hl : n ≤ 12) (hF : allF l) :
    PSpecM Try.prog 93 [.rf 0 0 n, .int .i64 0, .int .i64 n, .int .i64 k, .fn 52 []] [(0, 27, 2)] [v2 .i64 l]
      fun v c => v = .tup [] ∧ ∃ m, c = [v2 .i64 m] ∧ m.length = n ∧ (∀ x, x ∈ m ↔ x ∈ l) ∧ wkF m n := by
  subst hn
  refine slices_pdqsortCmpFunc_impl_Fraction_f.m rfl rfl ?_
  simp (config := { maxSteps := 10000000 }) (disch := first | omega | (simp only [LN]; omega)) only [↓EC, EW, seval, ↓reduceIte, false_imp_iff, slices_pdqsortCmpFunc_impl_Fraction_F]
  refine LP_of (σ := Unit) 100000 [(0, 27, 2)] (fun s => [.int .i64 0, .int .i64 l.length, .int .i64 k, .bool true, .bool true]) (fun s => [v2 .i64 l])
    (fun s => True) (fun s => 0) () (by simp [frameOk, names, lpz, sclp, scv, scvs, vi_nrf, vb_nrf, vt_nrf, v2_nrf, v3_nrf, nrfs, nrf, sc_vi, sc_vb, sc_vt, sc_v2, sc_v3, sc_vo, sc_vl, vo_nrf, vl_nrf, sc_vn, vn_nrf]) trivial ?_ ?_
  · simp (disch := first | omega | (simp only [LN]; omega)) only [↓EC, EW, seval, ↓reduceIte, false_imp_iff, ColV_def]
  · rintro _ _
    simp (disch := first | omega | (simp only [LN]; omega)) only [↓EC, EW, seval, ↓reduceIte, false_imp_iff, ColV_def, lheap_def]
    refine Split.mk (fun _ => ?_) (fun h => by simp only [decide_eq_false_iff_not] at h; omega)
    refine pcm [0] rfl ?_
    (try simp (disch := first | omega | (simp only [LN]; omega)) only [↓EC, EW, seval, ↓reduceIte, false_imp_iff])
    refine callM_q (c_insertionSortF rfl hl hF) ?_
    rintro v c ⟨rfl, m, rfl, q1, q2, q3⟩
    (try simp (disch := first | omega | (simp only [LN]; omega)) only [↓EC, EW, seval, ↓reduceIte, false_imp_iff])
    exact ⟨m, rfl, q1, q2, q3⟩
theorem c_Len64n {n : Nat} (hn : n ≤ 12) : PSpec Try.prog 106 [.int .u64 n] fun v => ∃ k : Int, v = .int .i64 k := by
  refine math_bits_Len64_f.f ?_
  have : n = 0 ∨ n = 1 ∨ n = 2 ∨ n = 3 ∨ n = 4 ∨ n = 5 ∨ n = 6 ∨ n = 7 ∨ n = 8 ∨ n = 9 ∨ n = 10 ∨ n = 11 ∨ n = 12 := by omega
  rcases this with rfl | rfl | rfl | rfl | rfl | rfl | rfl | rfl | rfl | rfl | rfl | rfl | rfl
  all_goals (simp (config := { maxSteps := 10000000 }) (disch := first | omega | (simp only [LN]; omega)) only [↓EC, EW, seval, ↓reduceIte, false_imp_iff, math_bits_Len64_F])
  all_goals exact ⟨_, rfl⟩
theorem c_Lenn {n : Nat} (hn : n ≤ 12) : PSpec Try.prog 92 [.int .u64 n] fun v => ∃ k : Int, v = .int .i64 k := by
  refine math_bits_Len_f.f ?_
  simp (disch := first | omega | (simp only [LN]; omega)) only [↓EC, EW, seval, ↓reduceIte, false_imp_iff, math_bits_Len_F]
  refine pcd_r (c_Len64n hn) ?_
  rintro _ ⟨k, rfl⟩
  (try simp (disch := first | omega | (simp only [LN]; omega)) only [↓EC, EW, seval, ↓reduceIte, false_imp_iff])
  try exact ⟨_, rfl⟩
theorem c_SortFunc {l : List (Int × Int)} {n : Nat} (hn : l.length = n) (hl : n ≤ 12) (hF : allF l) :
    PSpecM Try.prog 82 [.rf 0 0 n, .fn 52 []] [(0, 27, 2)] [v2 .i64 l]
      fun v c => v = .tup [] ∧ ∃ m, c = [v2 .i64 m] ∧ m.length = n ∧ (∀ x, x ∈ m ↔ x ∈ l) ∧ wkF m n := by
  subst hn
  refine slices_SortFunc_impl_Fraction_impl_Fraction_f.m rfl rfl ?_
  simp (disch := first | omega | (simp only [LN]; omega)) only [↓EC, EW, seval, ↓reduceIte, false_imp_iff, slices_SortFunc_impl_Fraction_impl_Fraction_F]
  refine pcd_r (c_Lenn hl) ?_
  rintro _ ⟨k, rfl⟩
  (try simp (disch := first | omega | (simp only [LN]; omega)) only [↓EC, EW, seval, ↓reduceIte, false_imp_iff])
  refine pcm [0] rfl ?_
  (try simp (disch := first | omega | (simp only [LN]; omega)) only [↓EC, EW, seval, ↓reduceIte, false_imp_iff])
  refine callM_q (c_pdqsortF rfl hl hF) ?_
  rintro v c ⟨rfl, m, rfl, q1, q2, q3⟩
  (try simp (disch := first | omega | (simp only [LN]; omega)) only [↓EC, EW, seval, ↓reduceIte, false_imp_iff])
  exact ⟨m, rfl, q1, q2, q3⟩
end Go.Proofs.Ytlfpiegadaiafaa.Sep
end
section
/- Leaving out doubles: slices.Compact; the image of a set. -/
namespace Go.Proofs.Ytlfpiegadaiafaa.Sep
open Go.RowKit
set_option linter.unusedVariables false
set_option linter.unusedSimpArgs false
set_option maxRecDepth 20000
set_option maxHeartbeats 4000000

theorem callMR_q {P : Program} {f : FuncId} {h : Hp} {K : V → Hp → Prop} {bs : List Nat} {bx : List (Nat × TypeId × Nat)} {cells : List (List V)} {ws : List V} {Φ : Nat → Nat → Nat → List (List V) → Prop}
    (hs : PSpecMR P f ws bx cells Φ) (hK : ∀ j o n cs, Φ j o n cs → ∀ b, bs[j]? = some b → K (.rf b o n) (hputs2 h bs bx cs)) : CallMR P f h K bs bx cells ws := ⟨Φ, hs, hK⟩
theorem v2_drop {k : IntKind} {l : List (Int × Int)} {i : Nat} (h : i ≤ l.length) : (v2 k l).drop (i * 2) = v2 k (l.drop i) := vr_drop (r := R2) h
theorem v2_take {k : IntKind} {l : List (Int × Int)} {i : Nat} (h : i ≤ l.length) : (v2 k l).take (i * 2) = v2 k (l.take i) := vr_take (r := R2) h
theorem ddF_same {l : List (Int × Int)} {i : Nat} (h : g2 l (i + 1) = g2 l i) : ddF l (i + 2) = ddF l (i + 1) := by simp only [ddF]; rw [if_pos h]
theorem ddF_more {l : List (Int × Int)} {i : Nat} (h : g2 l (i + 1) ≠ g2 l i) : ddF l (i + 2) = ddF l (i + 1) ++ [g2 l (i + 1)] := by simp only [ddF]; rw [if_neg h]
theorem ddF_take {l : List (Int × Int)} {i : Nat} (hi : i ≤ l.length) (h : ∀ q, 0 < q → q < i → g2 l q ≠ g2 l (q - 1)) : ddF l i = l.take i := by
  induction i with
  | zero => simp [ddF]
  | succ i ih =>
    have e : l.take (i + 1) = l.take i ++ [g2 l i] := by rw [← List.take_append_getElem (by omega), g2_of (by omega)]
    rw [e, ← ih (by omega) (fun q h1 h2 => h q h1 (by omega))]
    cases i with
    | zero => simp [ddF]
    | succ i => exact ddF_more (h (i + 1) (by omega) (by omega))
theorem setV_genF {cs vs : List V} {off : Nat} (h : off + vs.length ≤ cs.length) : setV cs off vs = cs.take off ++ vs ++ cs.drop (off + vs.length) := by
  unfold setV
  split
  · rename_i v
    rw [List.set_eq_take_append_cons_drop, if_pos (by simp at h; omega)]
    simp
  · rfl
theorem setV_v2 {k : IntKind} {m : List (Int × Int)} {w r : Nat} (h : w + r = m.length) : setV (v2 k m) (w * 2) (v2 k (List.replicate r (0, 0))) = v2 k (m.take w ++ List.replicate r (0, 0)) := by
  rw [setV_genF (by rw [v2_len, v2_len, List.length_replicate]; omega), v2_take (by omega), v2_len, List.length_replicate, List.drop_of_length_le (by rw [v2_len]; omega), List.append_nil, v2_app]
theorem add_two (a b : Nat) : a * 2 + b * 2 = (a + b) * 2 := by omega
theorem c_Compact {l : List (Int × Int)} {n : Nat} (hn : l.length = n) (hl : n ≤ 12) :
    PSpecMR Try.prog 83 [.rf 0 0 n] [(0, 27, 2)] [v2 .i64 l]
      fun j o k c => j = 0 ∧ o = 0 ∧ k = (ddF l n).length ∧ ∃ m, c = [v2 .i64 m] ∧ m.length = n ∧ m.take k = ddF l n := by
  subst hn
  refine slices_Compact_impl_Fraction_impl_Fraction_f.mr rfl rfl ?_
  simp (disch := first | omega | (simp only [LN]; omega)) only [↓EC, EW, seval, ↓reduceIte, false_imp_iff, slices_Compact_impl_Fraction_impl_Fraction_F]
  (refine Split.mk (fun h => ?_) (fun h => ?_) <;> (try simp only [decide_eq_true_eq, decide_eq_false_iff_not, beq_iff_eq, bne_iff_ne, beq_eq_false_iff_ne, bne_eq_false_iff_eq, Bool.not_eq_true', Bool.not_eq_false', Bool.and_eq_true, Bool.or_eq_true, Bool.and_eq_false_iff, Bool.or_eq_false_iff, Int.not_lt, Int.not_le, Bool.false_eq_true, Bool.true_eq_false, false_and, and_false, true_and, and_true, or_false, false_or, or_true, true_or, not_true_eq_false, not_false_eq_true] at h))
  · (try simp (disch := first | omega | (simp only [LN]; omega)) only [↓EC, EW, seval, ↓reduceIte, false_imp_iff])
    have e : ddF l l.length = l := by rw [ddF_take (Nat.le_refl _) (fun q h1 h2 => by omega), List.take_length]
    exact ⟨rfl, by rw [e], l, rfl, rfl, by rw [List.take_length, e]⟩
  · (try simp (disch := first | omega | (simp only [LN]; omega)) only [↓EC, EW, seval, ↓reduceIte, false_imp_iff])
    refine LP_of (σ := Nat) 100000 [(0, 27, 2)] (fun s => [.int .i64 s]) (fun s => [v2 .i64 l])
      (fun s => 1 ≤ s ∧ s ≤ l.length ∧ ∀ q, 0 < q → q < s → g2 l q ≠ g2 l (q - 1)) (fun s => l.length - s) 1 (by simp [frameOk, names, lpz, sclp, scv, scvs, vi_nrf, vb_nrf, vt_nrf, v2_nrf, v3_nrf, nrfs, nrf, sc_vi, sc_vb, sc_vt, sc_v2, sc_v3, sc_vo, sc_vl, vo_nrf, vl_nrf, sc_vn, vn_nrf]) ⟨by simp, by omega, fun q h1 h2 => by omega⟩ ?_ ?_
    · simp (disch := first | omega | (simp only [LN]; omega)) only [↓EC, EW, seval, ↓reduceIte, false_imp_iff, ColV_def]
    · rintro k ⟨h1, h2, h3⟩
      have hk1 : ((k : Int) - 1).toNat = k - 1 := by omega
      simp (disch := first | omega | (simp only [LN]; omega)) only [↓EC, EW, seval, ↓reduceIte, false_imp_iff, ColV_def, lheap_def, hk1]
      (refine Split.mk (fun h => ?_) (fun h => ?_) <;> (try simp only [decide_eq_true_eq, decide_eq_false_iff_not, beq_iff_eq, bne_iff_ne, beq_eq_false_iff_ne, bne_eq_false_iff_eq, Bool.not_eq_true', Bool.not_eq_false', Bool.and_eq_true, Bool.or_eq_true, Bool.and_eq_false_iff, Bool.or_eq_false_iff, Int.not_lt, Int.not_le, Bool.false_eq_true, Bool.true_eq_false, false_and, and_false, true_and, and_true, or_false, false_or, or_true, true_or, not_true_eq_false, not_false_eq_true] at h))
      · (try simp (disch := first | omega | (simp only [LN]; omega)) only [↓EC, EW, seval, ↓reduceIte, false_imp_iff, hk1])
        (refine Split.mk (fun h => ?_) (fun h => ?_) <;> (try simp only [decide_eq_true_eq, decide_eq_false_iff_not, beq_iff_eq, bne_iff_ne, beq_eq_false_iff_ne, bne_eq_false_iff_eq, Bool.not_eq_true', Bool.not_eq_false', Bool.and_eq_true, Bool.or_eq_true, Bool.and_eq_false_iff, Bool.or_eq_false_iff, Int.not_lt, Int.not_le, Bool.false_eq_true, Bool.true_eq_false, false_and, and_false, true_and, and_true, or_false, false_or, or_true, true_or, not_true_eq_false, not_false_eq_true] at h))
        · have hkk : g2 l (k - 1 + 1) = g2 l (k - 1) := by rw [show k - 1 + 1 = k by omega]; exact Prod.ext h.1 h.2
          have ek := ddF_take (l := l) h2 h3
          have ek1 : ddF l (k + 1) = ddF l k := by
            have := ddF_same hkk
            rwa [show k - 1 + 2 = k + 1 by omega, show k - 1 + 1 = k by omega] at this
          refine LP_of (σ := Nat × Nat × List (Int × Int)) 200000 [(0, 27, 2)] (fun s => [.int .i64 s.1, .int .i64 s.2.1]) (fun s => [v2 .i64 s.2.2])
            (fun s => (1 ≤ s.2.1 ∧ k + s.2.1 ≤ l.length) ∧ s.2.2.length = l.length ∧ (s.1 = (ddF l (k + s.2.1)).length ∧ s.1 ≤ k + s.2.1 - 1) ∧ s.2.2.take s.1 = ddF l (k + s.2.1) ∧ ∀ q, k + s.2.1 - 1 ≤ q → q < l.length → g2 s.2.2 q = g2 l q)
            (fun s => l.length - s.2.1) (k, 1, l) (by simp [frameOk, names, lpz, sclp, scv, scvs, vi_nrf, vb_nrf, vt_nrf, v2_nrf, v3_nrf, nrfs, nrf, sc_vi, sc_vb, sc_vt, sc_v2, sc_v3, sc_vo, sc_vl, vo_nrf, vl_nrf, sc_vn, vn_nrf]) ⟨⟨by simp, by simp only; omega⟩, rfl, ⟨by simp only; rw [ek1, ek, List.length_take]; omega, by simp⟩, by simp only; rw [ek1, ek], fun q _ _ => rfl⟩ ?_ ?_
          · simp (disch := first | omega | (simp only [LN]; omega)) only [↓EC, EW, seval, ↓reduceIte, false_imp_iff, ColV_def]
          · rintro ⟨w, k2, m⟩ ⟨⟨g1, g2'⟩, g3', ⟨g4, g5⟩, g6, g7⟩
            simp only at g1 g2' g3' g4 g5 g6 g7
            have hk2 : ((k2 : Int) - 1).toNat = k2 - 1 := by omega
            simp (disch := first | omega | (simp only [LN]; omega)) only [↓EC, EW, seval, ↓reduceIte, false_imp_iff, ColV_def, lheap_def, hk2, add_two]
            (refine Split.mk (fun h => ?_) (fun h => ?_) <;> (try simp only [decide_eq_true_eq, decide_eq_false_iff_not, beq_iff_eq, bne_iff_ne, beq_eq_false_iff_ne, bne_eq_false_iff_eq, Bool.not_eq_true', Bool.not_eq_false', Bool.and_eq_true, Bool.or_eq_true, Bool.and_eq_false_iff, Bool.or_eq_false_iff, Int.not_lt, Int.not_le, Bool.false_eq_true, Bool.true_eq_false, false_and, and_false, true_and, and_true, or_false, false_or, or_true, true_or, not_true_eq_false, not_false_eq_true] at h))
            · have gk : k + k2 < l.length := by omega
              have q1 : g2 m (k + k2) = g2 l (k + k2) := g7 _ (by omega) gk
              have q2 : g2 m (k + (k2 - 1)) = g2 l (k + (k2 - 1)) := g7 _ (by omega) (by omega)
              (try simp (disch := first | omega | (simp only [LN]; omega)) only [↓EC, EW, seval, ↓reduceIte, false_imp_iff, hk2, add_two, q1, q2])
              (refine Split.mk (fun h => ?_) (fun h => ?_) <;> (try simp only [decide_eq_true_eq, decide_eq_false_iff_not, beq_iff_eq, bne_iff_ne, beq_eq_false_iff_ne, bne_eq_false_iff_eq, Bool.not_eq_true', Bool.not_eq_false', Bool.and_eq_true, Bool.or_eq_true, Bool.and_eq_false_iff, Bool.or_eq_false_iff, Int.not_lt, Int.not_le, Bool.false_eq_true, Bool.true_eq_false, false_and, and_false, true_and, and_true, or_false, false_or, or_true, true_or, not_true_eq_false, not_false_eq_true] at h))
              · have hne : g2 l (k + (k2 - 1) + 1) ≠ g2 l (k + (k2 - 1)) := by
                  rw [show k + (k2 - 1) + 1 = k + k2 by omega]
                  intro e'
                  rw [e'] at h
                  simp at h
                have em := ddF_more hne
                rw [show k + (k2 - 1) + 2 = k + (k2 + 1) by omega, show k + (k2 - 1) + 1 = k + k2 by omega] at em
                refine ⟨(w + 1, k2 + 1, m.set w (g2 l (k + k2))), by simp, rfl, ⟨⟨by simp only; omega, by simp only; omega⟩, by simpa using g3', ⟨by simp only; rw [em, List.length_append, ← g4]; rfl, by simp only; omega⟩, ?_, fun q r1 r2 => ?_⟩, by simp only; omega⟩
                · simp only
                  rw [em, ← g6, ← List.take_append_getElem (by simp only [List.length_set]; omega), List.getElem_set_self, List.take_set_of_le (by omega)]
                · simp only at r1 r2 ⊢
                  rw [g2_set, if_neg (by omega)]
                  exact g7 q (by omega) r2
              · have heq : g2 l (k + (k2 - 1) + 1) = g2 l (k + (k2 - 1)) := by
                  rw [show k + (k2 - 1) + 1 = k + k2 by omega]
                  exact Prod.ext h.1 h.2
                have em := ddF_same heq
                rw [show k + (k2 - 1) + 2 = k + (k2 + 1) by omega, show k + (k2 - 1) + 1 = k + k2 by omega] at em
                exact ⟨(w, k2 + 1, m), by simp, rfl, ⟨⟨by simp only; omega, by simp only; omega⟩, g3', ⟨by simp only; rw [em]; exact g4, by simp only; omega⟩, by simp only; rw [em]; exact g6, fun q r1 r2 => g7 q (by simp only at r1; omega) r2⟩, by simp only; omega⟩
            · have gk : k + k2 = l.length := by omega
              rw [gk] at g4 g6
              (try simp (disch := first | omega | (simp only [LN]; omega)) only [↓EC, EW, seval, ↓reduceIte, false_imp_iff, hk2])
              rw [setV_v2 (by omega)]
              (try simp (disch := first | omega | (simp only [LN]; omega)) only [↓EC, EW, seval, ↓reduceIte, false_imp_iff])
              exact ⟨rfl, g4, _, rfl, by simp; omega, by rw [List.take_left' (by simp; omega)]; exact g6⟩
        · exact ⟨k + 1, by simp, ⟨by omega, by omega, fun q q1 q2 => by
            by_cases e : q = k
            · subst e; intro e'; rw [e'] at h; simp at h
            · exact h3 q q1 (by omega)⟩, by omega⟩
      · have hk : k = l.length := by omega
        subst hk
        have e : ddF l l.length = l := by rw [ddF_take (Nat.le_refl _) h3, List.take_length]
        (try simp (disch := first | omega | (simp only [LN]; omega)) only [↓EC, EW, seval, ↓reduceIte, false_imp_iff, hk1])
        exact ⟨rfl, by rw [e], l, rfl, rfl, by rw [List.take_length, e]⟩
end Go.Proofs.Ytlfpiegadaiafaa.Sep
end
section
/- Evaluation of long functions: what follows a call or a test is not looked at before it is its turn. -/
namespace Go.Proofs.Ytlfpiegadaiafaa.Sep
open Go.RowKit
set_option linter.unusedVariables false
set_option linter.unusedSimpArgs false

structure Hide {α : Type} (a : α) : Type where mk ::
def blk {α : Type} (a : α) (u : Hide a) : α := a
structure blkP (a : Prop) (u : Hide a) : Prop where
  out : a
theorem blkP_iff {a : Prop} {u : Hide a} : blkP a u = a := propext ⟨fun h => h.out, fun h => ⟨h⟩⟩
theorem blk_eq {K : V → Hp → Prop} {u : Hide K} {v : V} {h : Hp} : blk K u v h = K v h := by simp only [blk]
theorem SplitB_t {A B : Prop} {u : Hide A} : Split true (blkP A u) B = A := by rw [Split_true, blkP_iff]
theorem SplitB_f {A B : Prop} {u : Hide B} : Split false A (blkP B u) = B := by rw [Split_false, blkP_iff]
theorem Split.mkB {b : Bool} {A B : Prop} {u : Hide A} {v : Hide B} (h1 : b = true → A) (h2 : b = false → B) : Split b (blkP A u) (blkP B v) := ⟨fun h => ⟨h1 h⟩, fun h => ⟨h2 h⟩⟩
section
variable {P : Program} {h : Hp} {f : FuncId} {d : Nat} {vs : List V} {K : V → Hp → Prop}
def pcalB (P : Program) (f : FuncId) (d : Nat) (h : Hp) (K : V → Hp → Prop) (vs : List V) : Prop := pcal P f d h K vs
def pcalpB (P : Program) (f : FuncId) (d : Nat) (h : Hp) (K : V → Hp → Prop) (vs : List V) : Prop := pcalp P f d h K vs
def pcondB (A B : Prop) (v : V) : Prop := pcond A B v
def pgkB (w : Bool) (h : Hp) (op : V → (V → Hp → Prop) → Prop) (k : V → V → Hp → Prop) (v : V) : Prop := pgk w h op k v
def JNx (F : (List V → Hp → Prop) → Prop) (G : List V → Hp → Prop) (u : Hide F) (v : Hide G) : Prop := F G
theorem pcal_B : pcal P f d h K vs = pcalB P f d h K vs := rfl
theorem pcalp_B : pcalp P f d h K vs = pcalpB P f d h K vs := rfl
theorem pcond_B {A B : Prop} {v : V} : pcond A B v = pcondB A B v := rfl
theorem pgk_B {w : Bool} {op : V → (V → Hp → Prop) → Prop} {k : V → V → Hp → Prop} {v : V} : pgk w h op k v = pgkB w h op k v := rfl
theorem JN_B {F : (List V → Hp → Prop) → Prop} {G : List V → Hp → Prop} : JN F G = JNx F G ⟨⟩ ⟨⟩ := rfl
theorem pcalB_eq : pcalB P f d h K vs = pcd P f d h (blk K ⟨⟩) (dvs h vs) true vs := pcal_def
theorem pcalpB_eq : pcalpB P f d h K vs = pcd P f d h (blk K ⟨⟩) (dvs h vs) false vs := pcalp_def
theorem pcondB_eq {A B : Prop} {b : Bool} : pcondB A B (.bool b) = Split b (blkP A ⟨⟩) (blkP B ⟨⟩) := by simp only [pcondB, pcond_sym, blkP_iff]
theorem pgkB_eq {w : Bool} {op : V → (V → Hp → Prop) → Prop} {k : V → V → Hp → Prop} {b : Bool} : pgkB w h op k (.bool b) =
    Split b (blkP (cond w (op (.bool true) (k (.bool true))) (k (.bool true) (.tup []) h)) ⟨⟩) (blkP (cond w (k (.bool false) (.tup []) h) (op (.bool false) (k (.bool false)))) ⟨⟩) := by simp only [pgkB, pgk_sym, blkP_iff]
theorem pgkB_skip {w : Bool} {op : V → (V → Hp → Prop) → Prop} {k : V → V → Hp → Prop} : pgkB w h op k (.tup []) = k (.tup []) (.tup []) h := by simp only [pgkB, pgk_skip]
/-- Where ways meet, what follows is shown once. -/
theorem JNx_mk {F : (List V → Hp → Prop) → Prop} {G : List V → Hp → Prop} {u : Hide F} {v : Hide G} {o : List V} {h : Hp} (hF : ∀ k : List V → Hp → Prop, k o h → F k) (hG : G o h) : JNx F G u v := hF G hG
theorem JNx_un {F : (List V → Hp → Prop) → Prop} {G : List V → Hp → Prop} {u : Hide F} {v : Hide G} (h : F G) : JNx F G u v := h
/-- A call that turns blocks, its result one's own, told by a relation. -/
theorem callM_do {bs : List Nat} {bx : List (Nat × TypeId × Nat)} {cells : List (List V)} {ws : List V} {Φ : V → List (List V) → Prop}
    (hs : PSpecM P f ws bx cells Φ) (hK : ∀ v cs, Φ v cs → Rq (allFree (hputs2 h bs bx cs) (mat v d).2.1) (K (mat v d).1 (hputs (hputs2 h bs bx cs) (mat v d).2.1))) : CallM P f d h K bs bx cells ws := ⟨Φ, hs, .inr hK⟩
/-- A loop, its body hidden. -/
def LPx (vs ls : List Nat) (B : List V → List V → Hp → (List V → List V → Hp → Prop) → Prop) (u : Hide B) (wv lv : List V) (h : Hp) : Prop := LP vs ls B wv lv h
theorem LP_B {vs ls : List Nat} {B : List V → List V → Hp → (List V → List V → Hp → Prop) → Prop} {wv lv : List V} : LP vs ls B wv lv h = LPx vs ls B ⟨⟩ wv lv h := rfl
theorem LPx_ofE {σ : Type} (ss : List Nat) (c0 : Nat) (bx : List (Nat × TypeId × Nat)) (vals : σ → List V) (cells : σ → List (List V)) (J : σ → Prop) (μ : σ → Nat) (s0 : σ) {vs ls : List Nat}
    {B : List V → List V → Hp → (List V → List V → Hp → Prop) → Prop} {u : Hide B} {wv lv : List V} (hf : frameOk c0 (lpz ls lv) bx = true) (h0 : J s0)
    (he : ColV bx wv lv lv h fun v c => rts ss v = vals s0 ∧ c = cells s0)
    (hr : ∀ s, J s → B (mats (vals s) c0).1 lv (lheap c0 bx (vals s) (cells s)) fun wv' lv' h' => ColV bx wv' lv' lv h' fun v c => ∃ s', v = vals s' ∧ c = cells s' ∧ J s' ∧ μ s' < μ s) :
    LPx vs ls B u wv lv h := LP_ofE ss c0 bx vals cells J μ s0 hf h0 he hr
theorem LPx_of {σ : Type} (c0 : Nat) (bx : List (Nat × TypeId × Nat)) (vals : σ → List V) (cells : σ → List (List V)) (J : σ → Prop) (μ : σ → Nat) (s0 : σ) {vs ls : List Nat}
    {B : List V → List V → Hp → (List V → List V → Hp → Prop) → Prop} {u : Hide B} {wv lv : List V} (hf : frameOk c0 (lpz ls lv) bx = true) (h0 : J s0)
    (he : ColV bx wv lv lv h fun v c => v = vals s0 ∧ c = cells s0)
    (hr : ∀ s, J s → B (mats (vals s) c0).1 lv (lheap c0 bx (vals s) (cells s)) fun wv' lv' h' => ColV bx wv' lv' lv h' fun v c => ∃ s', v = vals s' ∧ c = cells s' ∧ J s' ∧ μ s' < μ s) :
    LPx vs ls B u wv lv h := LP_of c0 bx vals cells J μ s0 hf h0 he hr
end
end Go.Proofs.Ytlfpiegadaiafaa.Sep

namespace Go.Proofs.Ytlfpiegadaiafaa.Sep
set_option linter.defProp false in
def EBD := And.intro @pcalB_eq <| And.intro @pcalpB_eq <| And.intro @pcondB_eq <| And.intro @pgkB_eq <| And.intro @pgkB_skip <| And.intro @blk_eq <| And.intro @SplitB_t @SplitB_f
end Go.Proofs.Ytlfpiegadaiafaa.Sep
end
