/- What the functions on coverings compute. -/
import Derived.Test.YtjklebickfcddaaDoorC20
namespace Go.Proofs.YtjklebickfcddaaDoor.Sep
open Go.RowKit
set_option linter.unusedVariables false
set_option linter.unusedSimpArgs false
set_option maxRecDepth 20000

/-! ### Voltages -/
def rngB (l : List Int) (lo hi : Int) : Bool := l.all fun a => decide (lo ≤ a ∧ a ≤ hi)
def voltB (n m : Int) (l : List Int) : Bool := decide ((l.length : Int) = n) && l.all fun a => decide (0 ≤ a ∧ a < m)
theorem voltB_len {n m : Int} {l : List Int} (h : ¬ (l.length : Int) = n) : voltB n m l = false := by simp [voltB, h]
theorem voltB_no {n m : Int} {l : List Int} {i : Nat} (hi : i < l.length) (h : ¬ (0 ≤ gi l i ∧ gi l i < m)) : voltB n m l = false := by
  unfold voltB
  rw [Bool.and_eq_false_iff]
  right
  cases ha : l.all fun a => decide (0 ≤ a ∧ a < m) with
  | false => rfl
  | true => exact absurd (by simpa [gi] using (all_getD (d := 0)).1 ha i hi) h
theorem voltB_of {n m : Int} {l : List Int} (h1 : (l.length : Int) = n) (h2 : ∀ k, k < l.length → 0 ≤ gi l k ∧ gi l k < m) : voltB n m l = true := by
  unfold voltB
  rw [Bool.and_eq_true]
  exact ⟨by simp [h1], (all_getD (d := 0)).2 fun j hj => by simpa [gi] using h2 j hj⟩
theorem voltB_at {n m : Int} {l : List Int} (h : voltB n m l = true) : (l.length : Int) = n ∧ ∀ k, k < l.length → 0 ≤ gi l k ∧ gi l k < m := by
  unfold voltB at h
  rw [Bool.and_eq_true] at h
  exact ⟨by simpa using h.1, fun k hk => by simpa [gi] using (all_getD (d := 0)).1 h.2 k hk⟩
theorem voltB_rng {n m : Int} {l : List Int} : voltB n m l = (rngB l 0 (m - 1) && decide ((l.length : Int) = n)) := by
  unfold voltB rngB
  rw [Bool.and_comm]
  congr 2
  funext a
  exact decide_eq_decide.2 (by omega)

end Go.Proofs.YtjklebickfcddaaDoor.Sep
