/- What the functions on cycles compute. -/
import Derived.Test.YtjklebickfcddaaDoorC20
namespace Go.Proofs.YtjklebickfcddaaDoor.Sep
open Go.RowKit
set_option linter.unusedVariables false
set_option linter.unusedSimpArgs false
set_option maxRecDepth 20000

theorem count_false_lt {m : List Bool} {k : Nat} (h : gb m k = false) (hk : k < m.length) : (m.set k true).count false < m.count false := by
  rw [List.count_set hk]
  have hg : m[k] = false := by rw [← gb_of hk]; exact h
  have : 0 < m.count false := List.count_pos_iff.2 (by rw [← hg]; exact List.getElem_mem hk)
  rw [hg]; simp; omega
/-- A cycle, as far as its numbers are not met. -/
def cycF (p : List Int) (k : Int) (m : List Bool) (acc : List Int) : List Bool × List Int :=
  if h : gb m k.toNat = false ∧ k.toNat < m.length then cycF p (gi p k.toNat) (m.set k.toNat true) (acc ++ [k]) else (m, acc)
termination_by m.count false
decreasing_by exact count_false_lt h.1 h.2
theorem cycF_go {p : List Int} {k : Int} {m : List Bool} {acc : List Int} (h : gb m k.toNat = false) (hk : k.toNat < m.length) : cycF p k m acc = cycF p (gi p k.toNat) (m.set k.toNat true) (acc ++ [k]) := by
  rw [cycF, dif_pos ⟨h, hk⟩]
theorem cycF_end {p : List Int} {k : Int} {m : List Bool} {acc : List Int} (h : gb m k.toNat = true) : cycF p k m acc = (m, acc) := by
  rw [cycF, dif_neg (fun h' => by rw [h] at h'; cases h'.1)]
theorem cycF_len {p : List Int} : ∀ (c : Nat) {k : Int} {m : List Bool} {acc : List Int}, m.count false = c → (cycF p k m acc).1.length = m.length ∧ acc.length ≤ (cycF p k m acc).2.length ∧ (cycF p k m acc).2.length + (cycF p k m acc).1.count false = acc.length + m.count false := by
  intro c
  induction c using Nat.strongRecOn with
  | ind c ih =>
    intro k m acc hc
    by_cases h : gb m k.toNat = false ∧ k.toNat < m.length
    · rw [cycF_go h.1 h.2]
      have hlt := count_false_lt h.1 h.2
      obtain ⟨h1, h2, h3⟩ := @ih _ (by omega) (gi p k.toNat) (m.set k.toNat true) (acc ++ [k]) rfl
      have hcs : (m.set k.toNat true).count false + 1 = m.count false := by
        rw [List.count_set h.2] at hlt ⊢
        have hg : m[k.toNat] = false := by rw [← gb_of h.2]; exact h.1
        rw [hg] at hlt ⊢; simp at hlt ⊢; omega
      refine ⟨by simpa using h1, by simp at h2; omega, by simp at h3; omega⟩
    · rw [cycF, dif_neg h]; exact ⟨rfl, Nat.le_refl _, rfl⟩
def cycO (p : List Int) : Nat → List Bool × List (List Int)
  | 0 => (List.replicate 16 false, [])
  | i + 1 => if gb (cycO p i).1 i = true then cycO p i else ((cycF p i (cycO p i).1 []).1, (cycO p i).2 ++ [(cycF p i (cycO p i).1 []).2])
def cyc (p : List Int) (n : Int) : List (List Int) := (cycO p n.toNat).2
theorem cycO_len {p : List Int} : ∀ i : Nat, (cycO p i).1.length = 16 ∧ (cycO p i).2.length ≤ i
  | 0 => by simp [cycO]
  | i + 1 => by
    obtain ⟨h1, h2⟩ := cycO_len (p := p) i
    simp only [cycO]
    split
    · exact ⟨h1, by omega⟩
    · exact ⟨(cycF_len _ rfl).1.trans h1, by simp; omega⟩
theorem cycO_yes {p : List Int} {i : Nat} (h : gb (cycO p i).1 i = true) : cycO p (i + 1) = cycO p i := by simp only [cycO, if_pos h]
theorem cycO_no {p : List Int} {i : Nat} (h : gb (cycO p i).1 i = false) : cycO p (i + 1) = ((cycF p i (cycO p i).1 []).1, (cycO p i).2 ++ [(cycF p i (cycO p i).1 []).2]) := by
  simp only [cycO]; rw [if_neg (by rw [h]; decide)]

end Go.Proofs.YtjklebickfcddaaDoor.Sep
