/- What the functions on fractions compute. -/
import Derived.Test.YtbjmdjnopgojdaaC10
namespace Go.Proofs.Ytbjmdjnopgojdaa.Sep
open Go.RowKit
set_option linter.unusedVariables false
set_option linter.unusedSimpArgs false
set_option maxRecDepth 20000

def isFr (n d : Int) : Bool := decide (-1000000000 ≤ n ∧ n ≤ 1000000000 ∧ 0 ≤ d ∧ d ≤ 1000000000 ∧ Int.gcd n d = 1 ∧ (0 < d ∨ n = 1))

theorem c_impl_IsFraction {n d : Int} : PSpec Try.prog 14 [.agg [.int .i64 n, .int .i64 d]] fun v => v = .bool (isFr n d) := by
  refine impl_IsFraction_f ?_
  simp (disch := omega) only [↓EC, EV, EL, E2, ER, seval, ↓reduceIte, false_imp_iff, impl_IsFraction_F]
  repeat' first
    | (refine Split.mk (fun h => ?_) (fun h => ?_) <;> (try simp only [decide_eq_true_eq, decide_eq_false_iff_not, beq_iff_eq, bne_iff_ne, beq_eq_false_iff_ne, bne_eq_false_iff_eq, Bool.not_eq_true', Bool.not_eq_false', Bool.and_eq_true, Bool.or_eq_true, Bool.and_eq_false_iff, Bool.or_eq_false_iff, Int.not_lt, Int.not_le, Bool.false_eq_true, Bool.true_eq_false, false_and, and_false, true_and, and_true, or_false, false_or, or_true, true_or, not_true_eq_false, not_false_eq_true] at h))
    | (refine pcd_v (c_impl_gcd (by omega) (by omega)) ?_; (try simp (disch := omega) only [↓EC, EV, EL, E2, ER, seval, ↓reduceIte, false_imp_iff]))
  all_goals (simp only [V.bool.injEq]; unfold isFr; (try subst d); (try rw [Int.gcd_zero]); grind)
theorem c_spec_l10Is {n d : Int} : PSpec Try.prog 31 [.agg [.int .i64 n, .int .i64 d]] fun v => v = .bool (isFr n d) := by
  refine spec_l10Is_f ?_
  simp (disch := omega) only [↓EC, EV, EL, E2, ER, seval, ↓reduceIte, false_imp_iff, spec_l10Is_F]
  repeat' first
    | (refine Split.mk (fun h => ?_) (fun h => ?_) <;> (try simp only [decide_eq_true_eq, decide_eq_false_iff_not, beq_iff_eq, bne_iff_ne, beq_eq_false_iff_ne, bne_eq_false_iff_eq, Bool.not_eq_true', Bool.not_eq_false', Bool.and_eq_true, Bool.or_eq_true, Bool.and_eq_false_iff, Bool.or_eq_false_iff, Int.not_lt, Int.not_le, Bool.false_eq_true, Bool.true_eq_false, false_and, and_false, true_and, and_true, or_false, false_or, or_true, true_or, not_true_eq_false, not_false_eq_true] at h))
    | (refine pcd_v (c_spec_l01In) ?_; (try simp (disch := omega) only [↓EC, EV, EL, E2, ER, seval, ↓reduceIte, false_imp_iff]))
    | (refine pcd_v (c_spec_l10Common (by omega) (by omega)) ?_; (try simp (disch := omega) only [↓EC, EV, EL, E2, ER, seval, ↓reduceIte, false_imp_iff]))
  all_goals (simp only [V.bool.injEq]; unfold isFr; grind)
theorem c_spec_IsFraction {n d : Int} : PSpec Try.prog 12 [.agg [.int .i64 n, .int .i64 d]] fun v => v = .bool (isFr n d) := by
  refine spec_IsFraction_f ?_
  simp (disch := omega) only [↓EC, EV, EL, E2, ER, seval, ↓reduceIte, false_imp_iff, spec_IsFraction_F]
  (refine pcd_v (c_spec_l10Is) ?_; (try simp (disch := omega) only [↓EC, EV, EL, E2, ER, seval, ↓reduceIte, false_imp_iff]))
theorem c_laws_toFraction {n d : Int} : PSpec Try.prog 13 [.agg [.int .i64 n, .int .i64 d]] fun v => v = .agg [.int .i64 n, .int .i64 d] := by
  refine laws_toFraction_f ?_
  simp (disch := omega) only [↓EC, EV, EL, E2, ER, seval, ↓reduceIte, false_imp_iff, laws_toFraction_F]
theorem c_laws_eqFraction {n d m e : Int} : PSpec Try.prog 17 [.agg [.int .i64 n, .int .i64 d], .agg [.int .i64 m, .int .i64 e]] fun v => v = .bool (decide (n = m ∧ d = e)) := by
  refine laws_eqFraction_f ?_
  simp (disch := omega) only [↓EC, EV, EL, E2, ER, seval, ↓reduceIte, false_imp_iff, laws_eqFraction_F]
  repeat' (refine Split.mk (fun h => ?_) (fun h => ?_) <;> (try simp only [decide_eq_true_eq, decide_eq_false_iff_not, beq_iff_eq, bne_iff_ne, beq_eq_false_iff_ne, bne_eq_false_iff_eq, Bool.not_eq_true', Bool.not_eq_false', Bool.and_eq_true, Bool.or_eq_true, Bool.and_eq_false_iff, Bool.or_eq_false_iff, Int.not_lt, Int.not_le, Bool.false_eq_true, Bool.true_eq_false, false_and, and_false, true_and, and_true, or_false, false_or, or_true, true_or, not_true_eq_false, not_false_eq_true] at h))
  all_goals (simp only [V.bool.injEq]; grind)

theorem c_FnExactIsFraction {n d : Int} : PSpec Try.prog 4 [.agg [.int .i64 n, .int .i64 d]] fun v => v = .bool true := by
  refine laws_FnExactIsFraction_f ?_
  simp (disch := omega) only [↓EC, EV, EL, E2, ER, seval, ↓reduceIte, false_imp_iff, laws_FnExactIsFraction_F]
  repeat' first
    | (refine Split.mk (fun h => ?_) (fun h => ?_) <;> (try simp only [decide_eq_true_eq, decide_eq_false_iff_not, beq_iff_eq, bne_iff_ne, beq_eq_false_iff_ne, bne_eq_false_iff_eq, Bool.not_eq_true', Bool.not_eq_false', Bool.and_eq_true, Bool.or_eq_true, Bool.and_eq_false_iff, Bool.or_eq_false_iff, Int.not_lt, Int.not_le, Bool.false_eq_true, Bool.true_eq_false, false_and, and_false, true_and, and_true, or_false, false_or, or_true, true_or, not_true_eq_false, not_false_eq_true] at h))
    | (refine pcd_v (c_laws_toFraction) ?_; (try simp (disch := omega) only [↓EC, EV, EL, E2, ER, seval, ↓reduceIte, false_imp_iff]))
    | (refine pcd_v (c_spec_IsFraction) ?_; (try simp (disch := omega) only [↓EC, EV, EL, E2, ER, seval, ↓reduceIte, false_imp_iff]))
    | (refine pcd_v (c_impl_IsFraction) ?_; (try simp (disch := omega) only [↓EC, EV, EL, E2, ER, seval, ↓reduceIte, false_imp_iff]))
  all_goals simp_all
theorem t_FnExactIsFraction : ∀ xs, Ty.oks [.st [.int .i64, .int .i64]] xs → PSpec Try.prog 4 xs fun r => r = .bool true := by
  rintro xs ⟨v, r, rfl, hv, rfl⟩
  simp only [Ty.ok, Ty.isAgg, if_true, Ty.fits, Ty.fitss] at hv
  obtain ⟨l, rfl, a, b, rfl, ⟨k, rfl, _⟩, a, b, rfl, ⟨f, rfl, _⟩, rfl⟩ := hv
  exact c_FnExactIsFraction
end Go.Proofs.Ytbjmdjnopgojdaa.Sep
