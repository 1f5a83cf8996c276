/- What the functions on fractions and moves compute. -/
import Derived.Test.YtlfpiegadaiafaaSepRec
import Derived.Test.YtlfpiegadaiafaaForm
namespace Go.Proofs.Ytlfpiegadaiafaa.Sep
open Go.RowKit
set_option linter.unusedVariables false
set_option linter.unusedSimpArgs false
set_option maxRecDepth 20000

theorem gcd_step (x y : Int) : Int.gcd y (x.tmod y) = Int.gcd x y := by
  rw [Int.gcd_comm x y]
  have h := Int.mul_tdiv_add_tmod x y
  conv => rhs; rw [← h]
  rw [Int.add_comm, Int.gcd_add_mul_left_right]
theorem tmod_lt (x : Int) {y : Int} (hy : y ≠ 0) : (x.tmod y).natAbs < y.natAbs := by
  rw [Int.natAbs_tmod]
  exact Nat.mod_lt _ (by omega)

theorem c_impl_gcd {a b : Int} (ha : -4611686018427387904 ≤ a ∧ a ≤ 4611686018427387904) (hb : -4611686018427387904 ≤ b ∧ b ≤ 4611686018427387904) :
    PSpec Try.prog 47 [.int .i64 a, .int .i64 b] fun v => v = .int .i64 (Int.gcd a b) := by
  refine impl_gcd_f.f ?_
  unfold impl_gcd_F
  refine LP_of (σ := Int × Int) 100000 [] (fun s => [.int .i64 s.1, .int .i64 s.2]) (fun _ => [])
    (fun s => Int.gcd s.1 s.2 = Int.gcd a b ∧ (-4611686018427387904 ≤ s.1 ∧ s.1 ≤ 4611686018427387904) ∧ (-4611686018427387904 ≤ s.2 ∧ s.2 ≤ 4611686018427387904)) (fun s => s.2.natAbs) (a, b) rfl ⟨rfl, ha, hb⟩ ?_ ?_
  · simp (disch := first | omega | (simp only [List.length_append, List.length_cons, List.length_nil, List.length_replicate, List.length_set, List.length_take, List.length_drop, vi_len, vb_len, vo_len, vl_len, vn_len]; omega)) only [↓EC, EV, EL, E2, E3, ER, seval, ↓reduceIte, false_imp_iff, ColV_def]
  · rintro ⟨x, y⟩ ⟨h1, h2, h3⟩
    simp only at h1 h2 h3
    simp (disch := first | omega | (simp only [List.length_append, List.length_cons, List.length_nil, List.length_replicate, List.length_set, List.length_take, List.length_drop, vi_len, vb_len, vo_len, vl_len, vn_len]; omega)) only [↓EC, EV, EL, E2, E3, ER, seval, ↓reduceIte, false_imp_iff, ColV_def, lheap_def]
    refine Split.mk (fun h => ?_) (fun h => ?_)
    · have hy : y ≠ 0 := by simpa using h
      have := tmod_lt x hy
      exact ⟨hy, (y, x.tmod y), rfl, ⟨by rw [gcd_step]; exact h1, by omega, by simp only; omega⟩, this⟩
    · have hy : y = 0 := by simpa using h
      subst hy
      rw [Int.gcd_zero] at h1
      rw [← h1]
      congr 1
      split <;> omega

theorem c_spec_l10Common {a b : Int} (ha : -4611686018427387904 ≤ a ∧ a ≤ 4611686018427387904) (hb : -4611686018427387904 ≤ b ∧ b ≤ 4611686018427387904) :
    PSpec Try.prog 75 [.int .i64 a, .int .i64 b] fun v => v = .int .i64 (Int.gcd a b) := by
  refine spec_l10Common_f.f ?_
  unfold spec_l10Common_F
  refine LP_of (σ := Int × Int) 100000 [] (fun s => [.int .i64 s.1, .int .i64 s.2]) (fun _ => [])
    (fun s => Int.gcd s.1 s.2 = Int.gcd a b ∧ (-4611686018427387904 ≤ s.1 ∧ s.1 ≤ 4611686018427387904) ∧ (-4611686018427387904 ≤ s.2 ∧ s.2 ≤ 4611686018427387904)) (fun s => s.2.natAbs) (a, b) rfl ⟨rfl, ha, hb⟩ ?_ ?_
  · simp (disch := first | omega | (simp only [List.length_append, List.length_cons, List.length_nil, List.length_replicate, List.length_set, List.length_take, List.length_drop, vi_len, vb_len, vo_len, vl_len, vn_len]; omega)) only [↓EC, EV, EL, E2, E3, ER, seval, ↓reduceIte, false_imp_iff, ColV_def]
  · rintro ⟨x, y⟩ ⟨h1, h2, h3⟩
    simp only at h1 h2 h3
    simp (disch := first | omega | (simp only [List.length_append, List.length_cons, List.length_nil, List.length_replicate, List.length_set, List.length_take, List.length_drop, vi_len, vb_len, vo_len, vl_len, vn_len]; omega)) only [↓EC, EV, EL, E2, E3, ER, seval, ↓reduceIte, false_imp_iff, ColV_def, lheap_def]
    refine Split.mk (fun h => ?_) (fun h => ?_)
    · have hy : y ≠ 0 := by simpa using h
      have := tmod_lt x hy
      exact ⟨hy, (y, x.tmod y), rfl, ⟨by rw [gcd_step]; exact h1, by omega, by simp only; omega⟩, this⟩
    · have hy : y = 0 := by simpa using h
      subst hy
      rw [Int.gcd_zero] at h1
      rw [← h1]
      congr 1
      split <;> omega

theorem c_spec_l01In0 {n a b : Int} : PSpec Try.prog 48 [.int .i64 n, .int .i64 a, .int .i64 b] fun v => v = .bool (decide (a ≤ n ∧ n ≤ b)) := by
  refine spec_l01In_f.f ?_
  simp (disch := first | omega | (simp only [List.length_append, List.length_cons, List.length_nil, List.length_replicate, List.length_set, List.length_take, List.length_drop, vi_len, vb_len, vo_len, vl_len, vn_len]; omega)) only [↓EC, EV, EL, E2, E3, ER, seval, ↓reduceIte, false_imp_iff, spec_l01In_F]
  unfold Split
  simp only [V.bool.injEq]
  grind

/-! ### Moves -/
def isMoveB (k f l : Int) : Bool := decide (k = 2 ∧ 1 ≤ f ∧ f ≤ 20 ∧ 1 ≤ l ∧ l ≤ 20 ∨ (k = 0 ∨ k = 1) ∧ f = 0 ∧ l = 0)

theorem c_impl_IsMove {k f l : Int} : PSpec Try.prog 18 [.agg [.int .i64 k, .int .i64 f, .int .i64 l]] fun v => v = .bool (isMoveB k f l) := by
  refine impl_IsMove_f.f ?_
  simp (disch := first | omega | (simp only [List.length_append, List.length_cons, List.length_nil, List.length_replicate, List.length_set, List.length_take, List.length_drop, vi_len, vb_len, vo_len, vl_len, vn_len]; omega)) only [↓EC, EV, EL, E2, E3, ER, seval, ↓reduceIte, false_imp_iff, impl_IsMove_F]
  unfold isMoveB Split
  simp only [V.bool.injEq]
  grind
theorem c_spec_l10Move {k f l : Int} : PSpec Try.prog 56 [.agg [.int .i64 k, .int .i64 f, .int .i64 l]] fun v => v = .bool (isMoveB k f l) := by
  refine spec_l10Move_f.f ?_
  simp (disch := first | omega | (simp only [List.length_append, List.length_cons, List.length_nil, List.length_replicate, List.length_set, List.length_take, List.length_drop, vi_len, vb_len, vo_len, vl_len, vn_len]; omega)) only [↓EC, EV, EL, E2, E3, ER, seval, ↓reduceIte, false_imp_iff, spec_l10Move_F]
  repeat' first
    | refine Split.mk (fun _ => ?_) (fun _ => ?_)
    | (refine pcd_v c_spec_l01In0 ?_; (try simp (disch := first | omega | (simp only [List.length_append, List.length_cons, List.length_nil, List.length_replicate, List.length_set, List.length_take, List.length_drop, vi_len, vb_len, vo_len, vl_len, vn_len]; omega)) only [↓EC, EV, EL, E2, E3, ER, seval, ↓reduceIte, false_imp_iff]))
  all_goals (simp only [V.bool.injEq]; unfold isMoveB; grind)
theorem c_spec_IsMove {k f l : Int} : PSpec Try.prog 19 [.agg [.int .i64 k, .int .i64 f, .int .i64 l]] fun v => v = .bool (isMoveB k f l) := by
  refine spec_IsMove_f.f ?_
  simp (disch := first | omega | (simp only [List.length_append, List.length_cons, List.length_nil, List.length_replicate, List.length_set, List.length_take, List.length_drop, vi_len, vb_len, vo_len, vl_len, vn_len]; omega)) only [↓EC, EV, EL, E2, E3, ER, seval, ↓reduceIte, false_imp_iff, spec_IsMove_F]
  refine pcd_v c_spec_l10Move ?_
  (try simp (disch := first | omega | (simp only [List.length_append, List.length_cons, List.length_nil, List.length_replicate, List.length_set, List.length_take, List.length_drop, vi_len, vb_len, vo_len, vl_len, vn_len]; omega)) only [↓EC, EV, EL, E2, E3, ER, seval, ↓reduceIte, false_imp_iff])
end Go.Proofs.Ytlfpiegadaiafaa.Sep
